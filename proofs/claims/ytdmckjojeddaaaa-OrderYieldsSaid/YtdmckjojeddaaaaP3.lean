/- Plain facts on the trees of maps: what split, merge, put, drop and find do to the pairs in order (no memory). -/
import Derived.Test.YtdmckjojeddaaaaT6
import Derived.Test.YtdmckjojeddaaaaP1
namespace Go.Proofs.Ytdmckjojeddaaaa
open Go.Proofs.YtdmckjojeddaaaaPlain

def AT.toList : AT → PairL
  | .nil => []
  | .node _ k v l r => l.toList ++ (k, v) :: r.toList
def Sorted (l : PairL) : Prop := l.Pairwise (fun p q => Lt p.1 q.1)
theorem toList_length (t : AT) : t.toList.length = t.size := by
  induction t with
  | nil => rfl
  | node b k v l r ihl ihr => simp only [AT.toList, AT.size, List.length_append, List.length_cons]; omega

/-! ### The order of heights -/
def Above (seed : Int) (k k2 : List UInt8) : Prop := aboveB seed k k2 = true
theorem above_iff {seed : Int} {k k2 : List UInt8} : Above seed k k2 ↔ height seed k2 < height seed k ∨ (height seed k = height seed k2 ∧ Lt k k2) := by
  unfold Above aboveB
  split
  · rename_i h
    rw [h]; simp
  · rename_i h
    simp [h]
theorem above_trans {seed : Int} {a b c : List UInt8} (h : Above seed a b) (k : Above seed b c) : Above seed a c := by
  rw [above_iff] at *
  rcases h with h | ⟨h, h'⟩ <;> rcases k with k | ⟨k, k'⟩
  · exact .inl (by omega)
  · exact .inl (by omega)
  · exact .inl (by omega)
  · exact .inr ⟨by omega, lt_trans h' k'⟩
theorem above_irrefl {seed : Int} {a : List UInt8} : ¬ Above seed a a := by
  rw [above_iff]; rintro (h | ⟨_, h⟩)
  · omega
  · exact lt_irrefl a h
theorem above_total {seed : Int} {a b : List UInt8} (h : a ≠ b) : Above seed a b ∨ Above seed b a := by
  rw [above_iff, above_iff]
  rcases Int.lt_trichotomy (height seed a) (height seed b) with h1 | h1 | h1
  · exact .inr (.inl h1)
  · rcases lt_tri a b with h2 | h2 | h2
    · exact .inl (.inr ⟨h1, h2⟩)
    · exact absurd h2 h
    · exact .inr (.inr ⟨h1.symm, h2⟩)
  · exact .inl (.inl h1)
theorem above_asymm {seed : Int} {a b : List UInt8} (h : Above seed a b) : ¬ Above seed b a := fun k => above_irrefl (above_trans h k)

/-- No node stands below one of lesser height, or of the same and a greater key. -/
def Heap (seed : Int) : AT → Prop
  | .nil => True
  | .node _ k _ l r => (∀ p ∈ l.toList, Above seed k p.1) ∧ (∀ p ∈ r.toList, Above seed k p.1) ∧ Heap seed l ∧ Heap seed r
structure WF (seed : Int) (t : AT) : Prop where
  sorted : Sorted t.toList
  heap : Heap seed t

theorem sorted_append {a b : PairL} : Sorted (a ++ b) ↔ Sorted a ∧ Sorted b ∧ ∀ p ∈ a, ∀ q ∈ b, Lt p.1 q.1 := List.pairwise_append
theorem sorted_cons {p : List UInt8 × List UInt8} {l : PairL} : Sorted (p :: l) ↔ (∀ q ∈ l, Lt p.1 q.1) ∧ Sorted l := List.pairwise_cons
theorem sorted_node {b : Nat} {k v : List UInt8} {l r : AT} (h : Sorted (AT.node b k v l r).toList) : Sorted l.toList ∧ Sorted r.toList ∧ (∀ p ∈ l.toList, Lt p.1 k) ∧ (∀ p ∈ r.toList, Lt k p.1) ∧ (∀ p ∈ l.toList, ∀ q ∈ r.toList, Lt p.1 q.1) := by
  rw [AT.toList, sorted_append, sorted_cons] at h
  obtain ⟨h1, ⟨h2, h3⟩, h4⟩ := h
  exact ⟨h1, h3, fun p hp => h4 p hp _ List.mem_cons_self, h2, fun p hp q hq => h4 p hp q (List.mem_cons_of_mem _ hq)⟩

/-! ### rank in a list that is put together -/
theorem rank_append_lt {key : List UInt8} {a b : PairL} (h : ∀ p ∈ a, Lt p.1 key) : rank key (a ++ b) = a.length + rank key b := by
  induction a with
  | nil => simp
  | cons p a ih =>
    rw [List.cons_append, rank, if_pos (h p List.mem_cons_self), ih (fun q hq => h q (List.mem_cons_of_mem _ hq)), List.length_cons]
    omega
theorem rank_append_ge {key : List UInt8} {a b : PairL} {p : List UInt8 × List UInt8} (h : ¬ Lt p.1 key) : rank key (a ++ p :: b) = rank key a := by
  induction a with
  | nil => simp [rank, h]
  | cons q a ih =>
    rw [List.cons_append, rank, rank, ih]
theorem rank_all {key : List UInt8} {a : PairL} (h : ∀ p ∈ a, Lt p.1 key) : rank key a = a.length := by
  have := rank_append_lt (b := []) h
  rwa [List.append_nil] at this
theorem lt_of_not {key : List UInt8} {k : List UInt8} (h : ¬ Lt k key) (hne : key ≠ k) : Lt key k := (not_lt.1 h).resolve_left (fun e => hne e.symm)

theorem rank_node_lt {key : List UInt8} {b : Nat} {k v : List UInt8} {l r : AT} (h : Sorted (AT.node b k v l r).toList) (hk : Lt k key) : rank key (AT.node b k v l r).toList = l.toList.length + 1 + rank key r.toList := by
  obtain ⟨_, _, h3, _, _⟩ := sorted_node h
  rw [AT.toList, show l.toList ++ (k, v) :: r.toList = (l.toList ++ [(k, v)]) ++ r.toList by simp, rank_append_lt]
  · simp
  · intro p hp
    rcases List.mem_append.1 hp with hp | hp
    · exact lt_trans (h3 p hp) hk
    · simp at hp; subst hp; exact hk
theorem rank_node_ge {key : List UInt8} {b : Nat} {k v : List UInt8} {l r : AT} (hk : ¬ Lt k key) : rank key (AT.node b k v l r).toList = rank key l.toList := by
  rw [AT.toList]; exact rank_append_ge hk

/-! ### split -/
theorem split_list {seed : Int} {key : List UInt8} {t : AT} (hs : Sorted t.toList) : (t.split key).1.toList = t.toList.take (rank key t.toList) ∧ (t.split key).2.toList = t.toList.drop (rank key t.toList) := by
  have _s := seed
  induction t with
  | nil => simp [AT.split, AT.toList]
  | node b k v l r ihl ihr =>
    obtain ⟨h1, h2, h3, h4, _⟩ := sorted_node hs
    rw [AT.split]
    split
    · rename_i hk
      rw [rank_node_lt hs hk]
      obtain ⟨i1, i2⟩ := ihr h2
      simp only [AT.toList]
      rw [i1, i2]
      refine ⟨?_, ?_⟩
      · rw [show l.toList.length + 1 + rank key r.toList = l.toList.length + (1 + rank key r.toList) by omega, List.take_length_add_append, Nat.add_comm 1, List.take_succ_cons]
      · rw [show l.toList.length + 1 + rank key r.toList = l.toList.length + (1 + rank key r.toList) by omega, List.drop_length_add_append, Nat.add_comm 1, List.drop_succ_cons]
    · rename_i hk
      rw [rank_node_ge hk]
      obtain ⟨i1, i2⟩ := ihl h1
      have := rank_le key l.toList
      simp only [AT.toList]
      rw [i1, i2, List.take_append_of_le_length this, List.drop_append_of_le_length this]
      exact ⟨rfl, rfl⟩
theorem split_heap {seed : Int} {key : List UInt8} {t : AT} (hh : Heap seed t) : Heap seed (t.split key).1 ∧ Heap seed (t.split key).2 ∧ (∀ p ∈ (t.split key).1.toList, p ∈ t.toList) ∧ (∀ p ∈ (t.split key).2.toList, p ∈ t.toList) := by
  induction t with
  | nil => exact ⟨trivial, trivial, fun _ h => h, fun _ h => h⟩
  | node b k v l r ihl ihr =>
    obtain ⟨h1, h2, h3, h4⟩ := hh
    rw [AT.split]
    split
    · obtain ⟨i1, i2, i3, i4⟩ := ihr h4
      refine ⟨⟨h1, fun p hp => h2 p (i3 p hp), h3, i1⟩, i2, fun p hp => ?_, fun p hp => ?_⟩
      · simp only [AT.toList, List.mem_append, List.mem_cons] at hp ⊢
        rcases hp with hp | hp | hp
        · exact .inl hp
        · exact .inr (.inl hp)
        · exact .inr (.inr (i3 p hp))
      · simp only [AT.toList, List.mem_append, List.mem_cons]
        exact .inr (.inr (i4 p hp))
    · obtain ⟨i1, i2, i3, i4⟩ := ihl h3
      refine ⟨i1, ⟨fun p hp => h1 p (i4 p hp), h2, i2, h4⟩, fun p hp => ?_, fun p hp => ?_⟩
      · simp only [AT.toList, List.mem_append, List.mem_cons]
        exact .inl (i3 p hp)
      · simp only [AT.toList, List.mem_append, List.mem_cons] at hp ⊢
        rcases hp with hp | hp | hp
        · exact .inl (i4 p hp)
        · exact .inr (.inl hp)
        · exact .inr (.inr hp)

/-! ### merge -/
theorem merge_list (seed : Int) : ∀ (N : Nat) (a b : AT), a.size + b.size ≤ N → (AT.merge seed a b).toList = a.toList ++ b.toList := by
  intro N
  induction N with
  | zero =>
    intro a b h
    cases a with
    | nil => rw [merge_nil]; rfl
    | node => simp only [AT.size] at h; omega
  | succ N ih =>
    intro a b h
    cases a with
    | nil => rw [merge_nil]; rfl
    | node ba ka va la ra =>
      cases b with
      | nil => rw [merge_nil']; simp [AT.toList]
      | node bb kb vb lb rb =>
        rw [merge_node]
        simp only [AT.size] at h
        split
        · have := ih ra (.node bb kb vb lb rb) (by simp only [AT.size]; omega)
          simp only [AT.toList] at *
          rw [this]; simp
        · have := ih (.node ba ka va la ra) lb (by simp only [AT.size]; omega)
          simp only [AT.toList] at *
          rw [this]; simp
theorem merge_toList (seed : Int) (a b : AT) : (AT.merge seed a b).toList = a.toList ++ b.toList := merge_list seed _ a b (Nat.le_refl _)
theorem merge_heapN (seed : Int) : ∀ (N : Nat) (a b : AT), a.size + b.size ≤ N → (∀ p ∈ a.toList, ∀ q ∈ b.toList, Lt p.1 q.1) → Heap seed a → Heap seed b → Heap seed (AT.merge seed a b) := by
  intro N
  induction N with
  | zero =>
    intro a b h hd ha hb
    cases a with
    | nil => rw [merge_nil]; exact hb
    | node => simp only [AT.size] at h; omega
  | succ N ih =>
    intro a b h hd ha hb
    cases a with
    | nil => rw [merge_nil]; exact hb
    | node ba ka va la ra =>
      cases b with
      | nil => rw [merge_nil']; exact ha
      | node bb kb vb lb rb =>
        rw [merge_node]
        simp only [AT.size] at h
        obtain ⟨a1, a2, a3, a4⟩ := ha
        obtain ⟨b1, b2, b3, b4⟩ := hb
        have ma : (ka, va) ∈ (AT.node ba ka va la ra).toList := by simp [AT.toList]
        have mb : (kb, vb) ∈ (AT.node bb kb vb lb rb).toList := by simp [AT.toList]
        have hne : ka ≠ kb := lt_ne (hd _ ma _ mb)
        split
        · rename_i hab
          refine ⟨a1, fun p hp => ?_, a3, ih ra (.node bb kb vb lb rb) (by simp only [AT.size]; omega) (fun p hp q hq => hd p (by simp [AT.toList, hp]) q hq) a4 ⟨b1, b2, b3, b4⟩⟩
          rw [merge_toList] at hp
          rcases List.mem_append.1 hp with hp | hp
          · exact a2 p hp
          · simp only [AT.toList, List.mem_append, List.mem_cons] at hp
            rcases hp with hp | rfl | hp
            · exact above_trans hab (b1 p hp)
            · exact hab
            · exact above_trans hab (b2 p hp)
        · rename_i hab
          have hba : Above seed kb ka := (above_total hne).resolve_left hab
          refine ⟨fun p hp => ?_, b2, ih (.node ba ka va la ra) lb (by simp only [AT.size]; omega) (fun p hp q hq => hd p hp q (by simp [AT.toList, hq])) ⟨a1, a2, a3, a4⟩ b3, b4⟩
          rw [merge_toList] at hp
          rcases List.mem_append.1 hp with hp | hp
          · simp only [AT.toList, List.mem_append, List.mem_cons] at hp
            rcases hp with hp | rfl | hp
            · exact above_trans hba (a1 p hp)
            · exact hba
            · exact above_trans hba (a2 p hp)
          · exact b1 p hp
theorem merge_heap {seed : Int} {a b : AT} (hd : ∀ p ∈ a.toList, ∀ q ∈ b.toList, Lt p.1 q.1) (ha : Heap seed a) (hb : Heap seed b) : Heap seed (AT.merge seed a b) := merge_heapN seed _ a b (Nat.le_refl _) hd ha hb
theorem merge_wf {seed : Int} {a b : AT} (hd : ∀ p ∈ a.toList, ∀ q ∈ b.toList, Lt p.1 q.1) (ha : WF seed a) (hb : WF seed b) : WF seed (AT.merge seed a b) :=
  ⟨by rw [merge_toList, sorted_append]; exact ⟨ha.sorted, hb.sorted, hd⟩, merge_heap hd ha.heap hb.heap⟩

/-! ### keys in order -/
theorem sorted_take {l : PairL} (h : Sorted l) (n : Nat) : Sorted (l.take n) := List.Pairwise.sublist (List.take_sublist n l) h
theorem sorted_drop {l : PairL} (h : Sorted l) (n : Nat) : Sorted (l.drop n) := List.Pairwise.sublist (List.drop_sublist n l) h
theorem take_rank_lt {key : List UInt8} {l : PairL} : ∀ p ∈ l.take (rank key l), Lt p.1 key := by
  induction l with
  | nil => intro p hp; simp at hp
  | cons q l ih =>
    intro p hp
    rw [rank] at hp
    split at hp
    · rename_i h
      rw [List.take_succ_cons] at hp
      rcases List.mem_cons.1 hp with rfl | hp
      · exact h
      · exact ih p hp
    · simp at hp
theorem drop_rank_ge {key : List UInt8} {l : PairL} (hs : Sorted l) : ∀ p ∈ l.drop (rank key l), ¬ Lt p.1 key := by
  induction l with
  | nil => intro p hp; simp at hp
  | cons q l ih =>
    intro p hp
    obtain ⟨h1, h2⟩ := sorted_cons.1 hs
    rw [rank] at hp
    split at hp
    · rw [List.drop_succ_cons] at hp
      exact ih h2 p hp
    · rename_i h
      rw [List.drop_zero] at hp
      rcases List.mem_cons.1 hp with rfl | hp
      · exact h
      · exact fun hl => h (lt_trans (h1 p hp) hl)
/-- In order: behind the first pair whose key is not less all keys are greater. -/
theorem drop_rank_gt {key : List UInt8} {l : PairL} (hs : Sorted l) : ∀ p ∈ l.drop (if hasL key l then rank key l + 1 else rank key l), Lt key p.1 := by
  intro p hp
  cases hh : hasL key l with
  | true =>
    have hlt := hasL_rank hh
    rw [hh, if_pos rfl] at hp
    have e := hasL_lt hlt
    rw [hh] at e
    have e := of_decide_eq_true e.symm
    have hs2 := sorted_drop hs (rank key l)
    rw [List.drop_eq_getElem_cons hlt] at hs2
    have := (sorted_cons.1 hs2).1 p hp
    rwa [e] at this
  | false =>
    rw [hh] at hp
    simp at hp
    rcases lt_tri key p.1 with h | h | h
    · exact h
    · exfalso
      obtain ⟨i, hi, hpi⟩ := List.getElem_of_mem hp
      have hlt : rank key l < l.length := by rw [List.length_drop] at hi; omega
      have h0 := hasL_lt hlt
      rw [hh] at h0
      have h0 := of_decide_eq_false h0.symm
      have hs2 := sorted_drop hs (rank key l)
      rw [List.drop_eq_getElem_cons hlt] at hs2
      have hge := drop_rank_ge (key := key) hs l[rank key l] (by rw [List.drop_eq_getElem_cons hlt]; exact List.mem_cons_self)
      rcases List.mem_cons.1 (by rw [List.drop_eq_getElem_cons hlt] at hp; exact hp) with h1 | h1
      · subst h1; exact h0 h.symm
      · have := (sorted_cons.1 hs2).1 p h1
        rw [← h] at this
        exact hge this
    · exact absurd h (drop_rank_ge hs p hp)
theorem putL_sorted {l : PairL} {k v : List UInt8} (hs : Sorted l) : Sorted (putL l k v) := by
  unfold putL
  rw [sorted_append, sorted_cons]
  have h1 := fun p hp => take_rank_lt (key := k) (l := l) p hp
  have h2 := drop_rank_gt (key := k) hs
  refine ⟨sorted_take hs _, ⟨h2, sorted_drop hs _⟩, fun p hp q hq => ?_⟩
  rcases List.mem_cons.1 hq with rfl | hq
  · exact h1 p hp
  · exact lt_trans (h1 p hp) (h2 q hq)
theorem dropL_sorted {l : PairL} {k : List UInt8} (hs : Sorted l) : Sorted (dropL l k) := by
  unfold dropL
  split
  · rename_i hh
    rw [sorted_append]
    have h2 := drop_rank_gt (key := k) hs
    rw [if_pos hh] at h2
    exact ⟨sorted_take hs _, sorted_drop hs _, fun p hp q hq => lt_trans (take_rank_lt p hp) (h2 q hq)⟩
  · exact hs

theorem hasL_node_lt {key : List UInt8} {b : Nat} {k v : List UInt8} {l r : AT} (h : Sorted (AT.node b k v l r).toList) (hk : Lt k key) : hasL key (AT.node b k v l r).toList = hasL key r.toList := by
  unfold hasL
  rw [rank_node_lt h hk, AT.toList, show l.toList.length + 1 + rank key r.toList = l.toList.length + (1 + rank key r.toList) by omega, List.drop_length_add_append, Nat.add_comm 1, List.drop_succ_cons]
theorem hasL_node_gt {key : List UInt8} {b : Nat} {k v : List UInt8} {l r : AT} (hk : Lt key k) : hasL key (AT.node b k v l r).toList = hasL key l.toList := by
  unfold hasL
  rw [rank_node_ge (lt_asymm hk), AT.toList]
  rcases Nat.lt_or_ge (rank key l.toList) l.toList.length with h | h
  · rw [List.drop_append_of_le_length (Nat.le_of_lt h), List.drop_eq_getElem_cons h]; rfl
  · have he : rank key l.toList = l.toList.length := Nat.le_antisymm (rank_le _ _) h
    rw [he, List.drop_left, List.drop_length]
    simp; exact fun e => lt_ne hk e.symm
theorem hasL_node_eq {key : List UInt8} {b : Nat} {v : List UInt8} {l r : AT} (h : Sorted (AT.node b key v l r).toList) : hasL key (AT.node b key v l r).toList = true ∧ rank key (AT.node b key v l r).toList = l.toList.length := by
  obtain ⟨_, _, h3, _, _⟩ := sorted_node h
  have hr : rank key (AT.node b key v l r).toList = l.toList.length := by rw [rank_node_ge (lt_irrefl key), rank_all h3]
  refine ⟨?_, hr⟩
  unfold hasL
  rw [hr, AT.toList, List.drop_left]
  simp

/-! ### put, drop, find -/
theorem put_list {seed : Int} {nb : Nat} {k v : List UInt8} {t : AT} (hs : Sorted t.toList) (hh : Heap seed t) : (t.put seed nb k v).toList = putL t.toList k v := by
  induction t with
  | nil => simp [AT.put, AT.toList, putL, rank]
  | node b k' v' l r ihl ihr =>
    obtain ⟨h1, h2, h3, h4, _⟩ := sorted_node hs
    obtain ⟨q1, q2, hl, hr⟩ := hh
    rw [AT.put]
    split
    · rename_i e
      subst e
      obtain ⟨e1, e2⟩ := hasL_node_eq hs
      unfold putL
      rw [e1, if_pos rfl, e2]
      simp only [AT.toList]
      rw [List.take_left, show l.toList.length + 1 = l.toList.length + 1 from rfl, List.drop_length_add_append]
      rfl
    · rename_i hne
      split
      · rename_i hab
        obtain ⟨e1, e2⟩ := split_list (seed := seed) (key := k) hs
        simp only [AT.toList] at e1 e2 ⊢
        rw [e1, e2]
        have hn : hasL k (AT.node b k' v' l r).toList = false := by
          cases hh2 : hasL k (AT.node b k' v' l r).toList with
          | false => rfl
          | true =>
            exfalso
            have hlt := hasL_rank hh2
            have e := hasL_lt hlt
            rw [hh2] at e
            have e := of_decide_eq_true e.symm
            have hm : (AT.node b k' v' l r).toList[rank k (AT.node b k' v' l r).toList] ∈ (AT.node b k' v' l r).toList := List.getElem_mem hlt
            generalize (AT.node b k' v' l r).toList[rank k (AT.node b k' v' l r).toList] = p at *
            simp only [AT.toList, List.mem_append, List.mem_cons] at hm
            rcases hm with hm | hm | hm
            · exact above_asymm hab (e ▸ q1 p hm)
            · subst hm; exact hne e.symm
            · exact above_asymm hab (e ▸ q2 p hm)
        unfold putL
        simp only [AT.toList] at hn
        rw [hn]
        rfl
      · split
        · rename_i hlt
          simp only [AT.toList]
          rw [ihl h1 hl]
          unfold putL
          have e1 := hasL_node_gt (b := b) (v := v') (l := l) (r := r) hlt
          have e2 := rank_node_ge (b := b) (v := v') (l := l) (r := r) (lt_asymm hlt)
          simp only [AT.toList] at e1 e2
          rw [e1, e2, List.append_assoc, List.cons_append]
          have hle := rank_le k l.toList
          rw [List.take_append_of_le_length hle]
          congr 2
          have hle2 : (if hasL k l.toList then rank k l.toList + 1 else rank k l.toList) ≤ l.toList.length := by
            split
            · rename_i h; exact hasL_rank h
            · exact hle
          rw [List.drop_append_of_le_length hle2]
        · rename_i hnl
          have hlt : Lt k' k := lt_of_not (key := k') hnl (fun e => hne e.symm)
          simp only [AT.toList]
          rw [ihr h2 hr]
          unfold putL
          have e1 := hasL_node_lt hs hlt
          have e2 := rank_node_lt hs hlt
          simp only [AT.toList] at e1 e2
          rw [e1, e2, show l.toList.length + 1 + rank k r.toList = l.toList.length + (rank k r.toList + 1) by omega, List.take_length_add_append, List.take_succ_cons,
            show (if hasL k r.toList = true then l.toList.length + (rank k r.toList + 1) + 1 else l.toList.length + (rank k r.toList + 1)) = l.toList.length + ((if hasL k r.toList = true then rank k r.toList + 1 else rank k r.toList) + 1) by split <;> omega,
            List.drop_length_add_append, List.drop_succ_cons]
          simp
theorem put_heap {seed : Int} {nb : Nat} {k v : List UInt8} {t : AT} (hs : Sorted t.toList) (hh : Heap seed t) : Heap seed (t.put seed nb k v) := by
  induction t with
  | nil => simp [AT.put, Heap, AT.toList]
  | node b k' v' l r ihl ihr =>
    obtain ⟨h1, h2, h3, h4, _⟩ := sorted_node hs
    obtain ⟨q1, q2, hl, hr⟩ := hh
    rw [AT.put]
    split
    · exact ⟨q1, q2, hl, hr⟩
    · rename_i hne
      split
      · rename_i hab
        obtain ⟨i1, i2, i3, i4⟩ := split_heap (key := k) (t := .node b k' v' l r) ⟨q1, q2, hl, hr⟩
        have hall : ∀ p ∈ (AT.node b k' v' l r).toList, Above seed k p.1 := fun p hp => by
          simp only [AT.toList, List.mem_append, List.mem_cons] at hp
          rcases hp with hp | rfl | hp
          · exact above_trans hab (q1 p hp)
          · exact hab
          · exact above_trans hab (q2 p hp)
        exact ⟨fun p hp => hall p (i3 p hp), fun p hp => hall p (i4 p hp), i1, i2⟩
      · rename_i hab
        have hba : Above seed k' k := (above_total (fun e => hne e.symm)).resolve_right hab
        split
        · refine ⟨fun p hp => ?_, q2, ihl h1 hl, hr⟩
          rw [put_list h1 hl] at hp
          rcases mem_putL hp with rfl | hp
          · exact hba
          · exact q1 p hp
        · refine ⟨q1, fun p hp => ?_, hl, ihr h2 hr⟩
          rw [put_list h2 hr] at hp
          rcases mem_putL hp with rfl | hp
          · exact hba
          · exact q2 p hp
theorem put_wf {seed : Int} {nb : Nat} {k v : List UInt8} {t : AT} (h : WF seed t) : WF seed (t.put seed nb k v) := ⟨by rw [put_list h.sorted h.heap]; exact putL_sorted h.sorted, put_heap h.sorted h.heap⟩

theorem mem_dropL {l : PairL} {k : List UInt8} {p : List UInt8 × List UInt8} (h : p ∈ dropL l k) : p ∈ l := by
  unfold dropL at h
  split at h
  · rcases List.mem_append.1 h with h | h
    · exact List.mem_of_mem_take h
    · exact List.mem_of_mem_drop h
  · exact h
theorem find_has {key : List UInt8} {t : AT} (hs : Sorted t.toList) : (t.find key = .nil ∧ hasL key t.toList = false) ∨ (∃ b v l r, t.find key = .node b key v l r ∧ hasL key t.toList = true ∧ getL t.toList key = some v) := by
  induction t with
  | nil => exact .inl ⟨rfl, rfl⟩
  | node b k v l r ihl ihr =>
    obtain ⟨h1, h2, h3, h4, _⟩ := sorted_node hs
    rw [AT.find]
    split
    · rename_i e
      subst e
      obtain ⟨e1, e2⟩ := hasL_node_eq hs
      refine .inr ⟨b, v, l, r, rfl, e1, ?_⟩
      rw [getL, if_pos e1, e2]
      simp [AT.toList]
    · rename_i hne
      split
      · rename_i hlt
        rw [getL, hasL_node_gt hlt, rank_node_ge (lt_asymm hlt)]
        rcases ihl h1 with ⟨i1, i2⟩ | ⟨b', v', l', r', i1, i2, i3⟩
        · exact .inl ⟨i1, i2⟩
        · refine .inr ⟨b', v', l', r', i1, i2, ?_⟩
          rw [getL, if_pos i2] at i3
          rw [if_pos i2, ← i3, AT.toList, List.getElem?_append_left (hasL_rank i2)]
      · rename_i hnl
        have hlt : Lt k key := lt_of_not hnl (fun e => hne e.symm)
        rw [getL, hasL_node_lt hs hlt, rank_node_lt hs hlt]
        rcases ihr h2 with ⟨i1, i2⟩ | ⟨b', v', l', r', i1, i2, i3⟩
        · exact .inl ⟨i1, i2⟩
        · refine .inr ⟨b', v', l', r', i1, i2, ?_⟩
          rw [getL, if_pos i2] at i3
          rw [if_pos i2, ← i3, AT.toList, show l.toList.length + 1 + rank key r.toList = l.toList.length + (rank key r.toList + 1) by omega, List.getElem?_append_right (by omega), Nat.add_sub_cancel_left, List.getElem?_cons_succ]
theorem drop_list {seed : Int} {key : List UInt8} {t : AT} (hs : Sorted t.toList) : (t.drop seed key).toList = dropL t.toList key := by
  induction t with
  | nil => rfl
  | node b k v l r ihl ihr =>
    obtain ⟨h1, h2, h3, h4, _⟩ := sorted_node hs
    rw [AT.drop]
    split
    · rename_i e
      subst e
      obtain ⟨e1, e2⟩ := hasL_node_eq hs
      rw [dropL, if_pos e1, e2, merge_toList, AT.toList, List.take_left, List.drop_length_add_append]
      rfl
    · rename_i hne
      split
      · rename_i hlt
        rw [dropL, hasL_node_gt hlt, rank_node_ge (lt_asymm hlt)]
        simp only [AT.toList]
        rw [ihl h1, dropL]
        split
        · rename_i hh
          have := hasL_rank hh
          rw [List.take_append_of_le_length (Nat.le_of_lt this), List.drop_append_of_le_length (by omega), List.append_assoc]
        · rfl
      · rename_i hnl
        have hlt : Lt k key := lt_of_not hnl (fun e => hne e.symm)
        rw [dropL, hasL_node_lt hs hlt, rank_node_lt hs hlt]
        simp only [AT.toList]
        rw [ihr h2, dropL]
        split
        · rw [show l.toList.length + 1 + rank key r.toList = l.toList.length + (rank key r.toList + 1) by omega, List.take_length_add_append, List.take_succ_cons,
            show l.toList.length + (rank key r.toList + 1) + 1 = l.toList.length + (rank key r.toList + 1 + 1) by omega, List.drop_length_add_append, List.drop_succ_cons]
          simp
        · rfl
theorem drop_heap {seed : Int} {key : List UInt8} {t : AT} (hs : Sorted t.toList) (hh : Heap seed t) : Heap seed (t.drop seed key) := by
  induction t with
  | nil => exact hh
  | node b k v l r ihl ihr =>
    obtain ⟨h1, h2, h3, h4, h5⟩ := sorted_node hs
    obtain ⟨q1, q2, hl, hr⟩ := hh
    rw [AT.drop]
    split
    · exact merge_heap h5 hl hr
    · split
      · exact ⟨fun p hp => q1 p (mem_dropL (by rw [drop_list h1] at hp; exact hp)), q2, ihl h1 hl, hr⟩
      · exact ⟨q1, fun p hp => q2 p (mem_dropL (by rw [drop_list h2] at hp; exact hp)), hl, ihr h2 hr⟩
theorem drop_wf {seed : Int} {key : List UInt8} {t : AT} (h : WF seed t) : WF seed (t.drop seed key) := ⟨by rw [drop_list h.sorted]; exact dropL_sorted h.sorted, drop_heap h.sorted h.heap⟩
theorem split_wf {seed : Int} {key : List UInt8} {t : AT} (h : WF seed t) : WF seed (t.split key).1 ∧ WF seed (t.split key).2 := by
  obtain ⟨e1, e2⟩ := split_list (seed := seed) (key := key) h.sorted
  obtain ⟨i1, i2, _, _⟩ := split_heap (key := key) h.heap
  exact ⟨⟨by rw [e1]; exact sorted_take h.sorted _, i1⟩, ⟨by rw [e2]; exact sorted_drop h.sorted _, i2⟩⟩

end Go.Proofs.Ytdmckjojeddaaaa
