/- A tree is one of its rows, in plain lists. Conditions: none. -/
import Derived.Test.YtgabidgpngiecaaLT6
import Derived.Test.YtgabidgpngiecaaLP7
namespace Go.Proofs.Ytgabidgpngiecaa
open Go.RowKit Go.Proofs.YtgabidgpngiecaaKit Go.Proofs.YtgabidgpngiecaaPlain

theorem isrt_sorted (xs : List Int) : (isrt xs).Pairwise (· ≤ ·) := by
  unfold isrt
  have h := List.pairwise_mergeSort (le := fun x y : Int => decide (x ≤ y)) (fun a b c h1 h2 => by simp at *; omega) (fun a b => by simp; omega) xs
  exact h.imp (fun h => by simpa using h)
theorem colL_up (c : Nat) (L : List (Row × Nat)) : (colL c L).Pairwise (· < ·) := (compact_sorted (isrt_sorted _)).1
theorem colL_mem {c : Nat} {L : List (Row × Nat)} {x : Int} : x ∈ colL c L ↔ ∃ p ∈ L, p.1.x c = x := by
  unfold colL
  rw [(compact_sorted (isrt_sorted _)).2, isrt, (List.mergeSort_perm _ _).mem_iff, List.mem_map]

/-! ### The best cut -/
theorem fold_ok {L : List (Row × Nat)} {c : Nat} : ∀ (xs : List Int) (s : Cut), (xs.foldl (cutStep L c) s).ok = false → s.ok = false ∧ xs = []
  | [], s, h => ⟨h, rfl⟩
  | x :: xs, s, h => by
    have h1 := (fold_ok xs _ h).1
    unfold cutStep at h1
    split at h1
    · cases h1
    · rename_i h2
      exact absurd (.inl h1) h2
theorem best_none {L : List (Row × Nat)} : ∀ k, (bestTo L k).ok = false → ∀ c, c < k → (colL c L).dropLast = []
  | k + 1, h, c, hc => by
    have h1 := fold_ok _ _ h
    rcases Nat.lt_or_eq_of_le (Nat.le_of_lt_succ hc) with h2 | rfl
    · exact best_none k h1.1 c h2
    · exact h1.2
theorem fold_some {L : List (Row × Nat)} {c : Nat} {P : Cut → Prop} : ∀ (xs : List Int) (s : Cut), (∀ x ∈ xs, ∀ n d, P ⟨c, x, n, d, true⟩) → P s → P (xs.foldl (cutStep L c) s)
  | [], _, _, h => h
  | x :: xs, s, hx, h => by
    refine fold_some xs _ (fun y hy => hx y (List.mem_cons_of_mem _ hy)) ?_
    unfold cutStep
    split
    · exact hx x List.mem_cons_self _ _
    · exact h
theorem best_some {L : List (Row × Nat)} : ∀ k, (bestTo L k).ok = true → (bestTo L k).col < k ∧ (bestTo L k).cut ∈ (colL (bestTo L k).col L).dropLast
  | 0 => fun h => by cases h
  | k + 1 => by
    refine fold_some (P := fun s => s.ok = true → s.col < k + 1 ∧ s.cut ∈ (colL s.col L).dropLast) _ _ (fun x hx n d _ => ⟨Nat.lt_succ_self _, hx⟩) (fun h => ?_)
    have := best_some k h
    exact ⟨by omega, this.2⟩
theorem expand_lowL (c : Nat) (x : Int) (L : List (Row × Nat)) : expand (lowL c x L) = (expand L).filter (fun r => decide (r.x c ≤ x)) ∧ expand (highL c x L) = (expand L).filter (fun r => !decide (r.x c ≤ x)) := by
  induction L with
  | nil => exact ⟨rfl, rfl⟩
  | cons p L ih =>
    rw [expand_cons, List.filter_append, List.filter_append, ← ih.1, ← ih.2]
    by_cases h : p.1.x c ≤ x
    · have e1 : lowL c x (p :: L) = p :: lowL c x L := by simp [lowL, h]
      have e2 : highL c x (p :: L) = highL c x L := by simp [highL, h]
      rw [e1, e2, expand_cons]
      constructor
      · congr 1
        rw [List.filter_eq_self.2]
        intro r hr
        rw [(List.mem_replicate.1 hr).2]
        simpa using h
      · rw [List.filter_eq_nil_iff.2, List.nil_append]
        intro r hr
        rw [(List.mem_replicate.1 hr).2]
        simpa using h
    · have e1 : lowL c x (p :: L) = lowL c x L := by simp [lowL, h]
      have e2 : highL c x (p :: L) = p :: highL c x L := by simp [highL, h]
      rw [e1, e2, expand_cons]
      constructor
      · rw [List.filter_eq_nil_iff.2, List.nil_append]
        intro r hr
        rw [(List.mem_replicate.1 hr).2]
        simpa using h
      · congr 1
        rw [List.filter_eq_self.2]
        intro r hr
        rw [(List.mem_replicate.1 hr).2]
        simpa using h

/-! ### Pure -/
theorem pure_one {T : List Row} (hok : ∀ r ∈ T, okRow r) (h : PureC (cnt8 T)) : ∀ r ∈ T, r.l = (mostC (cnt8 T) 8 : Nat) := fun r hr => by
  obtain ⟨i, hi⟩ : ∃ i : Nat, r.l = i := ⟨r.l.toNat, by have := (hok r hr).2.2.2.1; omega⟩
  have h8 : i < 8 := by have := (hok r hr).2.2.2.2; omega
  have hpos : 0 < cnt8 T i := cnt8_pos.2 ⟨r, hr, hi⟩
  have h1 := h i h8
  rw [hi]
  by_cases e : i = mostC (cnt8 T) 8
  · rw [← e]
  · rw [if_neg e] at h1
    omega
theorem mostC_lt8 (c : Nat → Nat) : mostC c 8 < 8 := by have := mostC_lt c 8; omega
theorem kinds_two {c : Nat → Nat} (h : ¬ PureC c) : ∃ i j, i < 8 ∧ j < 8 ∧ i ≠ j ∧ 0 < c i ∧ 0 < c j := by
  have hm := mostC_lt8 c
  refine Classical.byContradiction fun hn => h fun i hi => ?_
  have hz : ∀ j, j < 8 → j ≠ mostC c 8 → c j = 0 := fun j hj hne => by
    refine Decidable.byContradiction fun h0 => hn ⟨j, mostC c 8, hj, hm, hne, by omega, ?_⟩
    have := mostC_max (c := c) 8 j hj
    omega
  by_cases e : i = mostC c 8
  · rw [if_pos e, totC_one hm hz, ← e]
  · rw [if_neg e, hz i hi e]
    rfl

/-! ### What the law asks of each branch -/
/-- What has come to each place, and how deep it lies. -/
structure TS where
  come : Nat → List Row
  above : Nat → Nat
def lowC (c : Nat) (x : Int) (T : List Row) : List Row := T.filter (fun r => decide (r.x c ≤ x))
def highC (c : Nat) (x : Int) (T : List Row) : List Row := T.filter (fun r => !decide (r.x c ≤ x))
def TS.step (b : Br) (i : Nat) (s : TS) : TS :=
  if 0 ≤ b.label then s else
    { come := fun j => if j = b.low.toNat then s.come j ++ lowC b.col.toNat b.cut (s.come i) else if j = b.high.toNat then s.come j ++ highC b.col.toNat b.cut (s.come i) else s.come j
      above := fun j => if j = b.low.toNat ∨ j = b.high.toNat then s.above i + 1 else s.above j }
def TS.run (T : List Br) (s : TS) : Nat → TS
  | 0 => s
  | i + 1 => match T[i]? with
    | some b => (TS.run T s i).step b i
    | none => TS.run T s i
def sameX (r r' : Row) : Prop := r.a = r'.a ∧ r.b = r'.b ∧ r.c = r'.c
/-- Whether rows can be parted: two labels, two points. -/
def PartP (T : List Row) : Prop := ∃ r0, T[0]? = some r0 ∧ (∃ r ∈ T, r.l ≠ r0.l) ∧ ∃ r ∈ T, ¬ sameX r r0
/-- What is asked of a leaf. -/
def LeafOk (deep : Nat) (few : Int) (b : Br) (i : Nat) (s : TS) : Prop :=
  ∃ m : Nat, b = ⟨0, 0, -1, -1, m, b.rows⟩ ∧ m < 8 ∧ (∀ k, k < 8 → cnt8 (s.come i) k ≤ cnt8 (s.come i) m) ∧ (∀ k, k < m → cnt8 (s.come i) k < cnt8 (s.come i) m) ∧ (s.above i < deep → few ≤ (s.come i).length → ¬ PartP (s.come i))
/-- What is asked of a branch. -/
def ForkOk (n deep : Nat) (few : Int) (b : Br) (i : Nat) (s : TS) : Prop :=
  ∃ (c hi : Nat), b = ⟨c, b.cut, (i + 1 : Nat), hi, -1, b.rows⟩ ∧ c < 3 ∧ i + 1 < hi ∧ hi < n ∧ (s.come (i + 1) = [] ∧ s.come hi = []) ∧ s.above i < deep ∧ few ≤ (s.come i).length ∧ ∃ k1 k2, k1 < 8 ∧ k2 < 8 ∧ k1 ≠ k2 ∧ 0 < cnt8 (s.come i) k1 ∧ 0 < cnt8 (s.come i) k2
def BrOk (n deep : Nat) (few : Int) (b : Br) (i : Nat) (s : TS) : Prop :=
  b.rows = (s.come i).length ∧ 0 < (s.come i).length ∧ (∀ r ∈ s.come i, okRow r) ∧ (s.come i).length ≤ 500 ∧ (LeafOk deep few b i s ∨ ForkOk n deep few b i s)

theorem run_at {T : List Br} {s : TS} {i : Nat} {b : Br} (h : T[i]? = some b) : TS.run T s (i + 1) = (TS.run T s i).step b i := by rw [TS.run, h]
theorem tot_perm {T C : List Row} (hp : C.Perm T) (hok : ∀ r ∈ T, okRow r) : totC (cnt8 T) 8 = (C.length : Int) := by rw [totC_len hok, hp.length_eq]

theorem leaf_ok {few : Int} {left deep n i : Nat} {L : List (Row × Nat)} {s : TS} (h5 : (expand L).length ≤ 500) (hp : (s.come i).Perm (expand L)) (hok : ∀ r ∈ expand L, okRow r) (h0 : expand L ≠ []) (hd : s.above i + left = deep) (hl : leafL left few L) : BrOk n deep few (leafB L) i s := by
  have hpos : 0 < (s.come i).length := by rw [hp.length_eq]; exact List.length_pos_iff.2 h0
  refine ⟨tot_perm hp hok, hpos, fun r hr => hok r (hp.mem_iff.1 hr), by rw [hp.length_eq]; exact h5, .inl ⟨mostC (cnt8 (expand L)) 8, rfl, mostC_lt8 _, fun k hk => ?_, fun k hk => ?_, fun ha hf hpart => ?_⟩⟩
  · rw [cnt8_perm hp]; exact mostC_max 8 k hk
  · rw [cnt8_perm hp]; exact mostC_least 8 k hk
  · obtain ⟨r0, e0, ⟨r, hr, hne⟩, r', hr', hx⟩ := hpart
    have m0 : r0 ∈ expand L := hp.mem_iff.1 (List.mem_of_getElem? e0)
    rcases hl with h | h | h | h
    · omega
    · rw [tot_perm hp hok] at h
      omega
    · have h1 := pure_one hok h r (hp.mem_iff.1 hr)
      have h2 := pure_one hok h r0 m0
      exact hne (by rw [h1, h2])
    · have h1 := best_none 3 h
      have hc : ∀ c, c < 3 → r'.x c = r0.x c := fun c hc => by
        obtain ⟨q, hq, _⟩ := mem_expand.1 (hp.mem_iff.1 hr')
        obtain ⟨q0, hq0, _⟩ := mem_expand.1 m0
        exact dropLast_nil (h1 c hc) (colL_mem.2 ⟨_, hq, rfl⟩) (colL_mem.2 ⟨_, hq0, rfl⟩)
      exact hx ⟨hc 0 (by omega), hc 1 (by omega), hc 2 (by omega)⟩

theorem hok_of {L : List (Row × Nat)} (hL : ∀ p ∈ L, 0 < p.2 ∧ okRow p.1) : ∀ r ∈ expand L, okRow r := fun r hr => by
  obtain ⟨n, h, _⟩ := mem_expand.1 hr
  exact (hL _ h).2
theorem tree_sub {few : Int} {deep : Nat} {T : List Br} {s0 : TS} : ∀ (left : Nat) (L : List (Row × Nat)) (at_ : Nat) (pre suf : List Br), T = pre ++ (treeL few left L at_ ++ suf) → pre.length = at_ → (expand L).length ≤ 500 →
    ((TS.run T s0 at_).come at_).Perm (expand L) → (∀ p ∈ L, 0 < p.2 ∧ okRow p.1) → expand L ≠ [] → (TS.run T s0 at_).above at_ + left = deep →
    (∀ j, at_ < j → j < at_ + (treeL few left L at_).length → (TS.run T s0 at_).come j = []) →
    (∀ i b, at_ ≤ i → i < at_ + (treeL few left L at_).length → T[i]? = some b → BrOk T.length deep few b i (TS.run T s0 i)) ∧
    (∀ j, at_ + (treeL few left L at_).length ≤ j → (TS.run T s0 (at_ + (treeL few left L at_).length)).come j = (TS.run T s0 at_).come j ∧ (TS.run T s0 (at_ + (treeL few left L at_).length)).above j = (TS.run T s0 at_).above j) := by
  have leafcase : ∀ (left : Nat) (L : List (Row × Nat)) (at_ : Nat) (pre suf : List Br), T = pre ++ ([leafB L] ++ suf) → pre.length = at_ → (expand L).length ≤ 500 → leafL left few L →
    ((TS.run T s0 at_).come at_).Perm (expand L) → (∀ r ∈ expand L, okRow r) → expand L ≠ [] → (TS.run T s0 at_).above at_ + left = deep →
    (∀ i b, at_ ≤ i → i < at_ + 1 → T[i]? = some b → BrOk T.length deep few b i (TS.run T s0 i)) ∧
    (∀ j, at_ + 1 ≤ j → (TS.run T s0 (at_ + 1)).come j = (TS.run T s0 at_).come j ∧ (TS.run T s0 (at_ + 1)).above j = (TS.run T s0 at_).above j) := by
    intro left L at_ pre suf hT hpl h5 hl hp hok h0 hd
    have hb : T[at_]? = some (leafB L) := by rw [hT, ← hpl]; simp
    refine ⟨fun i b h1 h2 hbi => ?_, fun j hj => ?_⟩
    · obtain rfl : i = at_ := by omega
      rw [hb] at hbi
      injection hbi with e
      subst e
      exact leaf_ok h5 hp hok h0 hd hl
    · rw [run_at hb, TS.step, if_pos (show 0 ≤ (leafB L).label from Int.natCast_nonneg _)]
      exact ⟨rfl, rfl⟩
  intro left
  induction left with
  | zero =>
    intro L at_ pre suf hT hpl h5 hp hL h0 hd _
    exact leafcase 0 L at_ pre suf hT hpl h5 (.inl rfl) hp (hok_of hL) h0 hd
  | succ left ih =>
    intro L at_ pre suf hT hpl h5 hp hL h0 hd hem
    rw [treeL] at hT hem ⊢
    split at hT
    · rename_i hl
      rw [if_pos hl] at hem ⊢
      exact leafcase (left + 1) L at_ pre suf hT hpl h5 hl hp (hok_of hL) h0 hd
    · rename_i hl
      rw [if_neg hl] at hem ⊢
      dsimp only at hT hem ⊢
      have hok1 : (bestTo L 3).ok = true := by
        cases h : (bestTo L 3).ok
        · exact absurd (.inr (.inr (.inr h))) hl
        · rfl
      obtain ⟨hcol, hcut⟩ := best_some 3 hok1
      obtain ⟨hm1, y, hm2, hlt⟩ := dropLast_lt (colL_up _ _) hcut
      obtain ⟨el, eh⟩ := expand_lowL (bestTo L 3).col (bestTo L 3).cut L
      generalize hc : (bestTo L 3).col = c at *
      generalize hx : (bestTo L 3).cut = x at *
      have hnp : ¬ PureC (cnt8 (expand L)) := fun h => hl (.inr (.inr (.inl h)))
      have hfew : few ≤ totC (cnt8 (expand L)) 8 := by
        refine Decidable.byContradiction fun h => hl (.inr (.inl ?_))
        omega
      -- both parts have rows
      obtain ⟨p1, hp1, e1⟩ := colL_mem.1 hm1
      obtain ⟨p2, hp2, e2⟩ := colL_mem.1 hm2
      have q1 : expand (lowL c x L) ≠ [] := by
        rw [el]
        refine List.ne_nil_of_mem (a := p1.1) (List.mem_filter.2 ⟨mem_expand.2 ⟨p1.2, hp1, (hL p1 hp1).1⟩, ?_⟩)
        simp [e1]
      have q2 : expand (highL c x L) ≠ [] := by
        rw [eh]
        refine List.ne_nil_of_mem (a := p2.1) (List.mem_filter.2 ⟨mem_expand.2 ⟨p2.2, hp2, (hL p2 hp2).1⟩, ?_⟩)
        simp [e2]; omega
      have okl : ∀ p ∈ lowL c x L, 0 < p.2 ∧ okRow p.1 := fun p hp => hL p (List.mem_filter.1 hp).1
      have okh : ∀ p ∈ highL c x L, 0 < p.2 ∧ okRow p.1 := fun p hp => hL p (List.mem_filter.1 hp).1
      have hok := hok_of hL
      -- the branch itself
      obtain ⟨A, hA⟩ : ∃ A, A = treeL few left (lowL c x L) (at_ + 1) := ⟨_, rfl⟩
      rw [← hA] at hT hem ⊢
      obtain ⟨B, hB⟩ : ∃ B, B = treeL few left (highL c x L) (at_ + 1 + A.length) := ⟨_, rfl⟩
      rw [← hB] at hT hem ⊢
      have hAp : 0 < A.length := hA ▸ treeL_pos ..
      have hBp : 0 < B.length := hB ▸ treeL_pos ..
      obtain ⟨b, hbd⟩ : ∃ b : Br, b = ⟨c, x, (at_ + 1 : Nat), (at_ + 1 + A.length : Nat), -1, totC (cnt8 (expand L)) 8⟩ := ⟨_, rfl⟩
      rw [← hbd] at hT hem ⊢
      have hlen : (b :: (A ++ B)).length = 1 + A.length + B.length := by simp; omega
      rw [hlen] at hem ⊢
      have hTl : T.length = at_ + 1 + A.length + B.length + suf.length := by rw [hT, ← hpl]; simp; omega
      have hb : T[at_]? = some b := by rw [hT, ← hpl]; simp
      have hs1 := run_at (s := s0) hb
      generalize hs : TS.run T s0 at_ = s at *
      have hneg : ¬ 0 ≤ b.label := by rw [hbd]; show ¬ (0 : Int) ≤ -1; decide
      rw [TS.step, if_neg hneg] at hs1
      have elo : b.low.toNat = at_ + 1 := by rw [hbd]; rfl
      have ehi : b.high.toNat = at_ + 1 + A.length := by rw [hbd]; rfl
      have eco : b.col.toNat = c := by rw [hbd]; rfl
      have ecu : b.cut = x := by rw [hbd]
      rw [elo, ehi, eco, ecu] at hs1
      have c1 : (TS.run T s0 (at_ + 1)).come (at_ + 1) = lowC c x (s.come at_) := by
        rw [hs1]
        show (if at_ + 1 = at_ + 1 then _ else _) = _
        rw [if_pos rfl, hem (at_ + 1) (by omega) (by omega), List.nil_append]
      have c2 : (TS.run T s0 (at_ + 1)).come (at_ + 1 + A.length) = highC c x (s.come at_) := by
        rw [hs1]
        show (if at_ + 1 + A.length = at_ + 1 then _ else if at_ + 1 + A.length = at_ + 1 + A.length then _ else _) = _
        rw [if_neg (by omega), if_pos rfl, hem _ (by omega) (by omega), List.nil_append]
      have c3 : ∀ j, j ≠ at_ + 1 → j ≠ at_ + 1 + A.length → (TS.run T s0 (at_ + 1)).come j = s.come j ∧ (TS.run T s0 (at_ + 1)).above j = s.above j := fun j h1 h2 => by
        rw [hs1]
        exact ⟨by show (if j = at_ + 1 then _ else if j = at_ + 1 + A.length then _ else _) = _; rw [if_neg h1, if_neg h2], by show (if j = at_ + 1 ∨ j = at_ + 1 + A.length then _ else _) = _; rw [if_neg (by omega)]⟩
      have a1 : (TS.run T s0 (at_ + 1)).above (at_ + 1) = s.above at_ + 1 := by
        rw [hs1]
        show (if at_ + 1 = at_ + 1 ∨ at_ + 1 = at_ + 1 + A.length then _ else _) = _
        rw [if_pos (.inl rfl)]
      have a2 : (TS.run T s0 (at_ + 1)).above (at_ + 1 + A.length) = s.above at_ + 1 := by
        rw [hs1]
        show (if at_ + 1 + A.length = at_ + 1 ∨ at_ + 1 + A.length = at_ + 1 + A.length then _ else _) = _
        rw [if_pos (.inr rfl)]
      clear hs1
      have I1 := ih (lowL c x L) (at_ + 1) (pre ++ [b]) (B ++ suf) (by rw [hT, ← hA]; simp) (by simp [hpl]) (by have := expand_low (c := c) (x := x) (L := L); omega) (by rw [c1, el]; exact hp.filter _) okl q1 (by rw [a1]; omega) (fun j h1 h2 => by rw [← hA] at h2; rw [(c3 j (by omega) (by omega)).1]; exact hem j (by omega) (by omega))
      rw [← hA] at I1
      have g2 := I1.2 (at_ + 1 + A.length) (by omega)
      have I2 := ih (highL c x L) (at_ + 1 + A.length) (pre ++ (b :: A)) suf (by rw [hT, ← hB]; simp) (by simp [hpl]; omega) (by have := expand_low (c := c) (x := x) (L := L); omega) (by rw [g2.1, c2, eh]; exact hp.filter _) okh q2 (by rw [g2.2, a2]; omega) (fun j h1 h2 => by rw [← hB] at h2; rw [(I1.2 j (by omega)).1, (c3 j (by omega) (by omega)).1]; exact hem j (by omega) (by omega))
      rw [← hB] at I2
      rw [show at_ + (1 + A.length + B.length) = at_ + 1 + A.length + B.length from by omega]
      refine ⟨fun i b' h1 h2 hbi => ?_, fun j hj => ?_⟩
      · by_cases hi0 : i = at_
        · subst hi0
          rw [hb] at hbi
          injection hbi with e
          subst e
          rw [hs]
          refine ⟨by rw [hbd]; exact tot_perm hp hok, by rw [hp.length_eq]; exact List.length_pos_iff.2 h0, fun r hr => hok r (hp.mem_iff.1 hr), by rw [hp.length_eq]; exact h5, .inr ⟨c, i + 1 + A.length, ?_, hcol, by omega, by omega, ⟨hem _ (by omega) (by omega), hem _ (by omega) (by omega)⟩, by omega, ?_, ?_⟩⟩
          · rw [hbd]
          · rw [← tot_perm hp hok]; exact hfew
          · rw [cnt8_perm hp]; exact kinds_two hnp
        · by_cases hi1 : i < at_ + 1 + A.length
          · exact I1.1 i b' (by omega) hi1 hbi
          · exact I2.1 i b' (by omega) h2 hbi
      · have g3 := I2.2 j hj
        have g4 := I1.2 j (by omega)
        have g5 := c3 j (by omega) (by omega)
        exact ⟨g3.1.trans (g4.1.trans g5.1), g3.2.trans (g4.2.trans g5.2)⟩

/-- A tree is one of the rows. -/
theorem tree_ok {few : Int} {deep : Nat} {rows : List Row} {L : List (Row × Nat)} (h5 : rows.length ≤ 500) (hp : rows.Perm (expand L)) (hL : ∀ p ∈ L, 0 < p.2 ∧ okRow p.1) (h0 : rows ≠ []) {T : List Br} (hT : T = treeL few deep L 0) :
    ∀ i b, T[i]? = some b → BrOk T.length deep few b i (TS.run T ⟨fun j => if j = 0 then rows else [], fun _ => 0⟩ i) := by
  intro i b hb
  have hi : i < T.length := (List.getElem?_eq_some_iff.1 hb).1
  have H := tree_sub (few := few) (deep := deep) (T := T) (s0 := ⟨fun j => if j = 0 then rows else [], fun _ => 0⟩) deep L 0 [] [] (by simp [hT]) rfl (by rw [← hp.length_eq]; exact h5) (show ((if (0 : Nat) = 0 then rows else []).Perm (expand L)) from by rw [if_pos rfl]; exact hp) hL (fun e => h0 (by have := hp.length_eq; rw [e] at this; exact List.length_eq_zero_iff.1 this)) (show 0 + deep = deep from by omega) (fun j h1 _ => show (if j = 0 then rows else []) = [] from if_neg (by omega))
  exact H.1 i b (Nat.zero_le _) (by rw [Nat.zero_add, ← hT]; exact hi) hb
end Go.Proofs.Ytgabidgpngiecaa
