/- Plain facts: stable merging and sorting of lists. Conditions: less is a strict weak order. -/
import Derived.Sort.Statements
namespace Go.Proofs.YtgabidgpngiecaaGreatPlain
open Go.Sort
section
variable {α : Type} {lt : α → α → Bool}

/-- Two lists merged: of the second comes ahead only what is less. -/
def mrg (lt : α → α → Bool) : List α → List α → List α
  | [], Y => Y
  | x :: X, [] => x :: X
  | x :: X, y :: Y => if lt y x then y :: mrg lt (x :: X) Y else x :: mrg lt X (y :: Y)
termination_by X Y => X.length + Y.length
/-- A list sorted, equal ones in their own order. -/
def stab (lt : α → α → Bool) : List α → List α
  | [] => []
  | x :: l => mrg lt [x] (stab lt l)
def Srt (lt : α → α → Bool) (l : List α) : Prop := l.Pairwise fun x y => lt y x = false

theorem set_mid (A : List α) (x y : α) (B : List α) : (A ++ x :: B).toArray.setIfInBounds A.length y = (A ++ y :: B).toArray := by simp
theorem mrg_nil (Y : List α) : mrg lt [] Y = Y := by rw [mrg]
theorem mrg_nil' (X : List α) : mrg lt X [] = X := by cases X <;> rw [mrg]
theorem mrg_lt {x y : α} {X Y : List α} (h : lt y x = true) : mrg lt (x :: X) (y :: Y) = y :: mrg lt (x :: X) Y := by rw [mrg, if_pos h]
theorem mrg_ge {x y : α} {X Y : List α} (h : lt y x = false) : mrg lt (x :: X) (y :: Y) = x :: mrg lt X (y :: Y) := by rw [mrg, if_neg (by rw [h]; decide)]
theorem mrg_perm : ∀ X Y : List α, (mrg lt X Y).Perm (X ++ Y)
  | [], Y => by rw [mrg_nil]; exact List.Perm.refl _
  | x :: X, [] => by rw [mrg_nil', List.append_nil]
  | x :: X, y :: Y => by
    cases h : lt y x with
    | true => rw [mrg_lt h]; exact ((mrg_perm (x :: X) Y).cons y).trans List.perm_middle.symm
    | false => rw [mrg_ge h]; exact (mrg_perm X (y :: Y)).cons x
termination_by X Y => X.length + Y.length
theorem mrg_mem {X Y : List α} {z : α} : z ∈ mrg lt X Y ↔ z ∈ X ∨ z ∈ Y := by rw [(mrg_perm X Y).mem_iff, List.mem_append]
theorem mrg_length (X Y : List α) : (mrg lt X Y).length = X.length + Y.length := by rw [(mrg_perm X Y).length_eq, List.length_append]
theorem mrg_pairwise {Q R : α → α → Prop} (hlt : ∀ x y, lt y x = true → Q y x) (hge : ∀ x y, lt y x = false → R x y → Q x y) (tr : ∀ x y z, lt y x = true → Q x z → Q y z) (tg : ∀ x y z, lt y x = false → Q y z → R x z → Q x z) :
    ∀ {X Y : List α}, X.Pairwise Q → Y.Pairwise Q → (∀ x ∈ X, ∀ y ∈ Y, R x y) → (mrg lt X Y).Pairwise Q
  | [], Y, _, hY, _ => by rw [mrg_nil]; exact hY
  | x :: X, [], hX, _, _ => by rw [mrg_nil']; exact hX
  | x :: X, y :: Y, hX, hY, hR => by
    rw [List.pairwise_cons] at hX hY
    cases h : lt y x with
    | true =>
      rw [mrg_lt h, List.pairwise_cons]
      refine ⟨fun z hz => ?_, mrg_pairwise hlt hge tr tg (List.pairwise_cons.2 hX) hY.2 fun a ha b hb => hR a ha b (List.mem_cons_of_mem _ hb)⟩
      rcases mrg_mem.1 hz with hz | hz
      · rcases List.mem_cons.1 hz with rfl | hz
        · exact hlt _ _ h
        · exact tr _ _ _ h (hX.1 z hz)
      · exact hY.1 z hz
    | false =>
      rw [mrg_ge h, List.pairwise_cons]
      refine ⟨fun z hz => ?_, mrg_pairwise hlt hge tr tg hX.2 (List.pairwise_cons.2 hY) fun a ha b hb => hR a (List.mem_cons_of_mem _ ha) b hb⟩
      have hx := hR x List.mem_cons_self
      rcases mrg_mem.1 hz with hz | hz
      · exact hX.1 z hz
      · rcases List.mem_cons.1 hz with rfl | hz'
        · exact hge _ _ h (hx _ List.mem_cons_self)
        · exact tg _ _ _ h (hY.1 z hz') (hx _ (List.mem_cons_of_mem _ hz'))
termination_by X Y => X.length + Y.length
theorem swo_asymm (hO : SWO lt) {x y : α} (h : lt x y = true) : lt y x = false := by
  cases h2 : lt y x with
  | false => rfl
  | true => have := hO.trans _ _ _ h h2; rw [hO.irrefl] at this; cases this
theorem swo_lt_of (hO : SWO lt) {x y z : α} (h : lt x y = true) (h2 : lt z y = false) : lt x z = true := by
  cases h3 : lt x z with
  | true => rfl
  | false => have := hO.ntrans _ _ _ h3 h2; rw [h] at this; cases this
theorem swo_lt_of' (hO : SWO lt) {x y z : α} (h : lt x y = true) (h2 : lt x z = false) : lt z y = true := by
  cases h3 : lt z y with
  | true => rfl
  | false => have := hO.ntrans _ _ _ h2 h3; rw [h] at this; cases this
theorem mrg_srt (hO : SWO lt) {X Y : List α} (hX : Srt lt X) (hY : Srt lt Y) : Srt lt (mrg lt X Y) :=
  mrg_pairwise (R := fun _ _ => True) (fun _ _ h => swo_asymm hO h) (fun _ _ h _ => h) (fun _ _ _ h hz => by
    cases h3 : lt _ _ with
    | false => rfl
    | true => have := hO.trans _ _ _ h3 h; rw [hz] at this; cases this) (fun x y z h hz _ => hO.ntrans z y x hz h) hX hY (fun _ _ _ _ => trivial)
theorem mrg_assoc (hO : SWO lt) : ∀ X Y Z : List α, mrg lt (mrg lt X Y) Z = mrg lt X (mrg lt Y Z)
  | [], Y, Z => by rw [mrg_nil, mrg_nil]
  | x :: X, [], Z => by rw [mrg_nil', mrg_nil]
  | x :: X, y :: Y, [] => by rw [mrg_nil', mrg_nil']
  | x :: X, y :: Y, z :: Z => by
    cases hyx : lt y x with
    | true =>
      rw [mrg_lt hyx]
      cases hzy : lt z y with
      | true =>
        have hzx : lt z x = true := hO.trans _ _ _ hzy hyx
        rw [mrg_lt hzy, mrg_lt hzy, mrg_lt hzx, ← mrg_assoc hO (x :: X) (y :: Y) Z, mrg_lt hyx]
      | false => rw [mrg_ge hzy, mrg_ge hzy, mrg_lt hyx, mrg_assoc hO (x :: X) Y (z :: Z)]
    | false =>
      rw [mrg_ge hyx]
      cases hzy : lt z y with
      | true =>
        cases hzx : lt z x with
        | true => rw [mrg_lt hzx, mrg_lt hzy, mrg_lt hzx, ← mrg_assoc hO (x :: X) (y :: Y) Z, mrg_ge hyx]
        | false => rw [mrg_ge hzx, mrg_lt hzy, mrg_ge hzx, mrg_assoc hO X (y :: Y) (z :: Z), mrg_lt hzy]
      | false =>
        have hzx : lt z x = false := hO.ntrans _ _ _ hzy hyx
        rw [mrg_ge hzx, mrg_ge hzy, mrg_ge hyx, mrg_assoc hO X (y :: Y) (z :: Z), mrg_ge hzy]
termination_by X Y Z => X.length + Y.length + Z.length
theorem stab_append (hO : SWO lt) : ∀ X Y : List α, stab lt (X ++ Y) = mrg lt (stab lt X) (stab lt Y)
  | [], Y => by rw [List.nil_append, stab, mrg_nil]
  | x :: X, Y => by rw [List.cons_append, stab, stab, stab_append hO X Y, mrg_assoc hO]
theorem stab_one (x : α) : stab lt [x] = [x] := by rw [stab, stab, mrg_nil']
theorem stab_perm : ∀ l : List α, (stab lt l).Perm l
  | [] => List.Perm.refl _
  | x :: l => by rw [stab]; exact (mrg_perm _ _).trans ((stab_perm l).cons x)
theorem stab_length (l : List α) : (stab lt l).length = l.length := (stab_perm l).length_eq
theorem stab_srt (hO : SWO lt) : ∀ l : List α, Srt lt (stab lt l)
  | [] => List.Pairwise.nil
  | _ :: l => mrg_srt hO (List.pairwise_singleton ..) (stab_srt hO l)
/-- Of two that are equal the one that stood ahead stands ahead. -/
theorem stab_stable (hO : SWO lt) {R : α → α → Prop} : ∀ {l : List α}, l.Pairwise R → (stab lt l).Pairwise fun x y => lt x y = true ∨ (lt y x = false ∧ R x y)
  | [], _ => List.Pairwise.nil
  | x :: l, h => by
    rw [List.pairwise_cons] at h
    rw [stab]
    refine mrg_pairwise (R := R) (fun _ _ h => .inl h) (fun _ _ h hr => .inr ⟨h, hr⟩) (fun a b c h hq => ?_) (fun a b c h hq hr => ?_) (List.pairwise_singleton ..) (stab_stable hO h.2) fun a ha b hb => ?_
    · rcases hq with hq | ⟨hq, _⟩
      · exact .inl (hO.trans _ _ _ h hq)
      · exact .inl (swo_lt_of hO h hq)
    · rcases hq with hq | ⟨hq, _⟩
      · exact .inl (swo_lt_of' hO hq h)
      · exact .inr ⟨hO.ntrans _ _ _ hq h, hr⟩
    · rw [List.mem_singleton] at ha
      subst ha
      exact h.1 b ((stab_perm l).mem_iff.1 hb)
theorem mrg_split : ∀ {X1 X2 Y1 Y2 : List α}, (∀ x ∈ X1, ∀ y ∈ Y2, lt y x = false) → (∀ x ∈ X2, ∀ y ∈ Y1, lt y x = true) → mrg lt (X1 ++ X2) (Y1 ++ Y2) = mrg lt X1 Y1 ++ mrg lt X2 Y2
  | [], X2, [], Y2, _, _ => by rw [mrg_nil]; rfl
  | [], [], y :: Y1, Y2, _, _ => by rw [List.nil_append, mrg_nil, mrg_nil, mrg_nil]
  | [], x :: X2, y :: Y1, Y2, _, h2 => by
    have := mrg_split (X1 := []) (X2 := x :: X2) (Y1 := Y1) (Y2 := Y2) (fun _ h => by cases h) (fun a ha b hb => h2 a ha b (List.mem_cons_of_mem _ hb))
    rw [List.nil_append, mrg_nil] at this
    rw [List.nil_append, List.cons_append, mrg_lt (h2 x List.mem_cons_self y List.mem_cons_self), this, mrg_nil]
    rfl
  | x :: X1, X2, [], [], _, _ => by rw [List.append_nil, mrg_nil', mrg_nil', mrg_nil']
  | x :: X1, X2, [], y :: Y2, h1, _ => by
    have := mrg_split (X1 := X1) (X2 := X2) (Y1 := []) (Y2 := y :: Y2) (fun a ha b hb => h1 a (List.mem_cons_of_mem _ ha) b hb) (fun _ _ _ h => by cases h)
    rw [List.nil_append, mrg_nil'] at this
    rw [List.nil_append, List.cons_append, mrg_ge (h1 x List.mem_cons_self y List.mem_cons_self), this, mrg_nil']
    rfl
  | x :: X1, X2, y :: Y1, Y2, h1, h2 => by
    cases h : lt y x with
    | true =>
      rw [List.cons_append, List.cons_append, mrg_lt h, mrg_lt h, List.cons_append, ← List.cons_append, mrg_split h1 (fun a ha b hb => h2 a ha b (List.mem_cons_of_mem _ hb))]
    | false =>
      rw [List.cons_append, List.cons_append, mrg_ge h, mrg_ge h, List.cons_append, ← List.cons_append, mrg_split (fun a ha b hb => h1 a (List.mem_cons_of_mem _ ha) b hb) h2]
termination_by X1 X2 Y1 Y2 => X1.length + Y1.length + X2.length + Y2.length
end

/-! ### In arrays -/
section
variable {α : Type} [Inhabited α] {lt : α → α → Bool}
theorem at_mid (A : List α) (x : α) (B : List α) : (A ++ x :: B).toArray[A.length]! = x := by
  rw [getElem!_pos _ _ (by simp)]
  simp
theorem at_mid' {A : List α} {x : α} {B : List α} {n : Nat} (h : n = A.length) : (A ++ x :: B).toArray[n]! = x := h ▸ at_mid A x B
theorem swp_mid {A M B : List α} {x y : α} {i j : Nat} (hi : i = A.length) (hj : j = A.length + 1 + M.length) : swp (A ++ x :: (M ++ y :: B)).toArray i j = (A ++ y :: (M ++ x :: B)).toArray := by
  subst hi hj
  have e1 : (A ++ x :: (M ++ y :: B)).toArray[A.length + 1 + M.length]! = y := by
    have h := at_mid (A ++ x :: M) y B
    rw [show (A ++ x :: M).length = A.length + 1 + M.length by simp; omega, List.append_assoc, List.cons_append] at h
    exact h
  unfold swp
  rw [e1, at_mid, set_mid]
  have h := set_mid (A ++ y :: M) y x B
  rw [show (A ++ y :: M).length = A.length + 1 + M.length by simp; omega, List.append_assoc, List.cons_append, List.append_assoc, List.cons_append] at h
  exact h
theorem swp_mid' {A M B : List α} {x y : α} {i j : Nat} (hi : i = A.length) (hj : j = A.length + 1 + M.length) : swp (A ++ x :: (M ++ y :: B)).toArray j i = (A ++ y :: (M ++ x :: B)).toArray := by
  subst hi hj
  have e1 : (A ++ x :: (M ++ y :: B)).toArray[A.length + 1 + M.length]! = y := by
    have h := at_mid (A ++ x :: M) y B
    rw [show (A ++ x :: M).length = A.length + 1 + M.length by simp; omega, List.append_assoc, List.cons_append] at h
    exact h
  unfold swp
  rw [e1, at_mid]
  have e3 : (A ++ x :: (M ++ y :: B)).toArray.setIfInBounds (A.length + 1 + M.length) x = (A ++ x :: (M ++ x :: B)).toArray := by
    have h := set_mid (A ++ x :: M) y x B
    rw [show (A ++ x :: M).length = A.length + 1 + M.length by simp; omega, List.append_assoc, List.cons_append, List.append_assoc, List.cons_append] at h
    exact h
  rw [e3, set_mid]
theorem insInner_mrg (hO : SWO lt) (A : List α) (x : α) : ∀ (n : Nat) (P B : List α), P.length = n → Srt lt P → insInner lt A.length (A.length + n) (A ++ (P ++ x :: B)).toArray = (A ++ (mrg lt P [x] ++ B)).toArray
  | 0, P, B, hn, _ => by
    obtain rfl := List.eq_nil_of_length_eq_zero hn
    rw [mrg_nil]
    cases h : A.length + 0 with
    | zero => rw [insInner]; rfl
    | succ j =>
      rw [insInner, if_neg]
      · rfl
      · simp; omega
  | n + 1, P, B, hn, hP => by
    obtain ⟨P', p, rfl⟩ : ∃ P' p, P = P' ++ [p] := ⟨P.dropLast, P.getLast (by intro e; simp [e] at hn), (List.dropLast_concat_getLast _).symm⟩
    have hl : P'.length = n := by simpa using hn
    have e1 : (A ++ (P' ++ [p] ++ x :: B)) = (A ++ P') ++ p :: ([] ++ x :: B) := by simp
    have g0 : (A ++ (P' ++ [p] ++ x :: B)).toArray[A.length + n]! = p := by rw [e1]; exact at_mid' (by simp [hl])
    have g1 : (A ++ (P' ++ [p] ++ x :: B)).toArray[A.length + n + 1]! = x := by
      have : (A ++ (P' ++ [p] ++ x :: B)) = (A ++ P' ++ [p]) ++ x :: B := by simp
      rw [this]; exact at_mid' (by simp [hl]; omega)
    rw [← Nat.add_assoc, insInner, g0, g1]
    unfold Srt at hP
    rw [List.pairwise_append] at hP
    cases h : lt x p with
    | true =>
      rw [if_pos (by simp; omega), e1, swp_mid' (by simp [hl]) (by simp [hl])]
      have := insInner_mrg hO A x n P' (p :: B) hl hP.1
      rw [show (A ++ P') ++ x :: ([] ++ p :: B) = A ++ (P' ++ x :: (p :: B)) by simp, this]
      have e2 := mrg_split (lt := lt) (X1 := P') (X2 := [p]) (Y1 := [x]) (Y2 := []) (fun _ _ _ h => by cases h) (fun a ha b hb => by rw [List.mem_singleton] at ha hb; subst ha hb; exact h)
      rw [List.append_nil] at e2
      rw [e2, mrg_nil']
      simp
    | false =>
      rw [if_neg (by simp)]
      have e2 := mrg_split (lt := lt) (X1 := P' ++ [p]) (X2 := []) (Y1 := []) (Y2 := [x]) (fun a ha b hb => by
        rw [List.mem_singleton] at hb; subst hb
        rcases List.mem_append.1 ha with ha | ha
        · exact hO.ntrans _ _ _ h (hP.2.2 a ha p (by simp))
        · rw [List.mem_singleton] at ha; subst ha; exact h) (fun _ h => by cases h)
      rw [List.append_nil, List.nil_append, mrg_nil', mrg_nil] at e2
      rw [e2]
      simp
theorem insOuter_stab (hO : SWO lt) (A B : List α) : ∀ (M2 M1 : List α), insOuter lt A.length (A.length + (M1.length + M2.length)) (A.length + M1.length) (A ++ (stab lt M1 ++ (M2 ++ B))).toArray = (A ++ (stab lt (M1 ++ M2) ++ B)).toArray
  | [], M1 => by
    rw [insOuter, if_neg (by simp)]
    simp
  | x :: M2, M1 => by
    rw [insOuter, if_pos (by simp)]
    have e := insInner_mrg hO A x M1.length (stab lt M1) (M2 ++ B) (stab_length M1) (stab_srt hO M1)
    rw [List.cons_append, e, ← stab_one (lt := lt) x, ← stab_append hO]
    have := insOuter_stab hO A B M2 (M1 ++ [x])
    simp only [List.length_append, List.length_cons, List.length_nil, Nat.zero_add] at this
    rw [show M1.length + (x :: M2).length = M1.length + 1 + M2.length by simp; omega, Nat.add_assoc A.length, this]
    simp
theorem insertionSort_stab (hO : SWO lt) (A M B : List α) {a b : Nat} (ha : a = A.length) (hb : b = A.length + M.length) : Go.Sort.insertionSort lt (A ++ (M ++ B)).toArray a b = (A ++ (stab lt M ++ B)).toArray := by
  subst ha hb
  unfold Go.Sort.insertionSort
  cases M with
  | nil => rw [insOuter, if_neg (by simp)]; rfl
  | cons x M =>
    have := insOuter_stab hO A B M [x]
    rw [stab_one] at this
    rw [show A.length + (x :: M).length = A.length + ([x].length + M.length) by simp; omega]
    simpa using this
end
end Go.Proofs.YtgabidgpngiecaaGreatPlain

namespace Go.Proofs.YtgabidgpngiecaaGreatPlain
open Go.Sort
section
variable {α : Type} {lt : α → α → Bool}
theorem at_x [Inhabited α] {A X R : List α} {t p : Nat} (hp : p = A.length + t) (ht : t < X.length) : (A ++ (X ++ R)).toArray[p]! = X[t] := by
  subst hp
  rw [getElem!_pos _ _ (by simp; omega)]
  simp [ht]
theorem srt_le {l : List α} (hO : SWO lt) (h : Srt lt l) {i j : Nat} (hi : i ≤ j) (hj : j < l.length) : lt l[j] (l[i]'(by omega)) = false := by
  rcases Nat.lt_or_eq_of_le hi with h1 | rfl
  · exact (List.pairwise_iff_getElem.1 h) i j (by omega) hj h1
  · exact hO.irrefl _
theorem mono_not {p : Nat → Bool} {r : Bool} {lo hi : Nat} (h : ∀ t t', lo ≤ t → t ≤ t' → t' < hi → p t' = r → p t = r) : ∀ t t', lo ≤ t → t ≤ t' → t' < hi → p t = (!r) → p t' = !r := by
  intro t t' h1 h2 h3 h4
  cases hp : p t' == r with
  | true =>
    have := h t t' h1 h2 h3 (eq_of_beq hp)
    rw [this] at h4
    cases r <;> cases h4
  | false =>
    have : p t' ≠ r := fun e => by rw [e] at hp; simp at hp
    cases hq : p t' <;> cases r <;> simp_all
/-- One element ahead of a sorted list. -/
theorem mrg_one_left {x : α} {Y : List α} {s : Nat} (h1 : ∀ t (ht : t < Y.length), t < s → lt Y[t] x = true) (h2 : ∀ t (ht : t < Y.length), s ≤ t → lt Y[t] x = false) : mrg lt [x] Y = Y.take s ++ x :: Y.drop s := by
  have e1 := mrg_split (lt := lt) (X1 := []) (X2 := [x]) (Y1 := Y.take s) (Y2 := Y.drop s) (fun _ h => by cases h) (fun a ha y hy => by
    rw [List.mem_singleton] at ha; subst ha
    obtain ⟨t, ht, rfl⟩ := List.getElem_of_mem hy
    rw [List.getElem_take]
    rw [List.length_take] at ht
    exact h1 t (by omega) (by omega))
  have e2 := mrg_split (lt := lt) (X1 := [x]) (X2 := []) (Y1 := []) (Y2 := Y.drop s) (fun a ha y hy => by
    rw [List.mem_singleton] at ha; subst ha
    obtain ⟨t, ht, rfl⟩ := List.getElem_of_mem hy
    rw [List.getElem_drop]
    rw [List.length_drop] at ht
    exact h2 _ (by omega) (by omega)) (fun _ h => by cases h)
  rw [List.take_append_drop, List.nil_append, mrg_nil] at e1
  rw [List.append_nil, List.nil_append, mrg_nil', mrg_nil] at e2
  rw [e1, e2]
  rfl
/-- One element behind a sorted list. -/
theorem mrg_one_right {y : α} {X : List α} {s : Nat} (h1 : ∀ t (ht : t < X.length), t < s → lt y X[t] = false) (h2 : ∀ t (ht : t < X.length), s ≤ t → lt y X[t] = true) : mrg lt X [y] = X.take s ++ y :: X.drop s := by
  have e1 := mrg_split (lt := lt) (X1 := X.take s) (X2 := X.drop s) (Y1 := []) (Y2 := [y]) (fun a ha b hb => by
    rw [List.mem_singleton] at hb; subst hb
    obtain ⟨t, ht, rfl⟩ := List.getElem_of_mem ha
    rw [List.getElem_take]
    rw [List.length_take] at ht
    exact h1 t (by omega) (by omega)) (fun _ _ _ h => by cases h)
  have e2 := mrg_split (lt := lt) (X1 := []) (X2 := X.drop s) (Y1 := [y]) (Y2 := []) (fun _ h => by cases h) (fun a ha b hb => by
    rw [List.mem_singleton] at hb; subst hb
    obtain ⟨t, ht, rfl⟩ := List.getElem_of_mem ha
    rw [List.getElem_drop]
    rw [List.length_drop] at ht
    exact h2 _ (by omega) (by omega))
  rw [List.take_append_drop, List.nil_append, mrg_nil'] at e1
  rw [List.append_nil, List.nil_append, mrg_nil, mrg_nil'] at e2
  rw [e1, e2]
  rfl
/-- The cut in the midst. -/
theorem mrg_mid (hO : SWO lt) {X Y : List α} (hX : Srt lt X) (hY : Srt lt Y) {s t : Nat} (hs : s ≤ X.length) (ht : t ≤ Y.length)
    (h1 : 0 < s → t < Y.length → ∀ (p : s - 1 < X.length) (q : t < Y.length), lt Y[t] X[s - 1] = false) (h2 : s < X.length → 0 < t → ∀ (p : s < X.length) (q : t - 1 < Y.length), lt Y[t - 1] X[s] = true) :
    mrg lt X Y = mrg lt (X.take s) (Y.take t) ++ mrg lt (X.drop s) (Y.drop t) := by
  have e := mrg_split (lt := lt) (X1 := X.take s) (X2 := X.drop s) (Y1 := Y.take t) (Y2 := Y.drop t) (fun x hx y hy => ?_) (fun x hx y hy => ?_)
  · rw [List.take_append_drop, List.take_append_drop] at e
    exact e
  · obtain ⟨i, hi, rfl⟩ := List.getElem_of_mem hx
    obtain ⟨j, hj, rfl⟩ := List.getElem_of_mem hy
    rw [List.getElem_take, List.getElem_drop]
    rw [List.length_take] at hi
    rw [List.length_drop] at hj
    have g1 := h1 (by omega) (by omega) (by omega) (by omega)
    have g2 := srt_le hO hX (i := i) (j := s - 1) (by omega) (by omega)
    have g3 := srt_le hO hY (i := t) (j := t + j) (by omega) (by omega)
    exact hO.ntrans _ _ _ g3 (hO.ntrans _ _ _ g1 g2)
  · obtain ⟨i, hi, rfl⟩ := List.getElem_of_mem hx
    obtain ⟨j, hj, rfl⟩ := List.getElem_of_mem hy
    rw [List.getElem_take, List.getElem_drop]
    rw [List.length_drop] at hi
    rw [List.length_take] at hj
    have g1 := h2 (by omega) (by omega) (by omega) (by omega)
    have g2 := srt_le hO hX (i := s) (j := s + i) (by omega) (by omega)
    have g3 := srt_le hO hY (i := j) (j := t - 1) (by omega) (by omega)
    exact swo_lt_of' hO (swo_lt_of hO g1 g2) g3
/-- Below an element that is less, all are less. -/
theorem srt_lt_left (hO : SWO lt) {Y : List α} (hY : Srt lt Y) {x : α} {i j : Nat} (hij : i ≤ j) (hj : j < Y.length) (h : lt Y[j] x = true) : lt (Y[i]'(by omega)) x = true := swo_lt_of' hO h (srt_le hO hY hij hj)
theorem srt_ge_right (hO : SWO lt) {Y : List α} (hY : Srt lt Y) {x : α} {i j : Nat} (hij : i ≤ j) (hj : j < Y.length) (h : lt (Y[i]'(by omega)) x = false) : lt Y[j] x = false := hO.ntrans _ _ _ (srt_le hO hY hij hj) h
theorem srt_lt_right (hO : SWO lt) {X : List α} (hX : Srt lt X) {y : α} {i j : Nat} (hij : i ≤ j) (hj : j < X.length) (h : lt y (X[i]'(by omega)) = true) : lt y X[j] = true := swo_lt_of hO h (srt_le hO hX hij hj)
theorem srt_ge_left (hO : SWO lt) {X : List α} (hX : Srt lt X) {y : α} {i j : Nat} (hij : i ≤ j) (hj : j < X.length) (h : lt y X[j] = false) : lt y (X[i]'(by omega)) = false := hO.ntrans _ _ _ h (srt_le hO hX hij hj)
end
end Go.Proofs.YtgabidgpngiecaaGreatPlain

namespace Go.Proofs.YtgabidgpngiecaaGreatPlain
open Go.Sort
section
variable {α : Type} {lt : α → α → Bool}
/-- Each block of k elements sorted. -/
def chk (lt : α → α → Bool) (k : Nat) : Nat → List α → List α
  | 0, l => stab lt l
  | f + 1, l => if l.length ≤ k then stab lt l else stab lt (l.take k) ++ chk lt k f (l.drop k)
theorem chk_end {k f : Nat} {l : List α} (h : l.length ≤ k) : chk lt k f l = stab lt l := by
  cases f with
  | zero => rfl
  | succ f => rw [chk, if_pos h]
theorem stab_nil : stab lt ([] : List α) = [] := rfl
theorem chk_step {k : Nat} (_hk : 0 < k) : ∀ {f : Nat} {l : List α}, l.length ≤ f → k ≤ l.length → chk lt k f l = stab lt (l.take k) ++ chk lt k f (l.drop k)
  | 0, l, h, h2 => by omega
  | f + 1, l, h, h2 => by
    rcases Nat.lt_or_eq_of_le h2 with h3 | h3
    · rw [chk, if_neg (by omega)]
      congr 1
      by_cases h4 : (l.drop k).length ≤ k
      · rw [chk_end h4, chk_end h4]
      · rw [chk, if_neg h4, chk_step _hk (by simp; omega) (by omega)]
    · rw [chk_end (by omega), List.take_of_length_le (by omega), List.drop_of_length_le (by omega), chk_end (by simp), stab_nil, List.append_nil]
theorem chk_length {k : Nat} : ∀ {f : Nat} {l : List α}, (chk lt k f l).length = l.length
  | 0, l => stab_length l
  | f + 1, l => by
    rw [chk]
    split
    · exact stab_length l
    · rw [List.length_append, stab_length, chk_length, List.length_take, List.length_drop]; omega
theorem mrg_map {β : Type} {lt' : β → β → Bool} (f : α → β) (h : ∀ x y, lt' (f x) (f y) = lt x y) : ∀ X Y : List α, (mrg lt X Y).map f = mrg lt' (X.map f) (Y.map f)
  | [], Y => by rw [mrg_nil, List.map_nil, mrg_nil]
  | x :: X, [] => by rw [mrg_nil', List.map_nil, mrg_nil']
  | x :: X, y :: Y => by
    cases hl : lt y x with
    | true => rw [mrg_lt hl, List.map_cons, mrg_map f h (x :: X) Y, List.map_cons, List.map_cons, mrg_lt ((h y x).trans hl)]
    | false => rw [mrg_ge hl, List.map_cons, mrg_map f h X (y :: Y), List.map_cons, List.map_cons, mrg_ge ((h y x).trans hl)]
termination_by X Y => X.length + Y.length
theorem stab_map {β : Type} {lt' : β → β → Bool} (f : α → β) (h : ∀ x y, lt' (f x) (f y) = lt x y) : ∀ l : List α, (stab lt l).map f = stab lt' (l.map f)
  | [] => rfl
  | x :: l => by
    show (mrg lt [x] (stab lt l)).map f = mrg lt' [f x] (stab lt' (l.map f))
    rw [mrg_map f h, stab_map f h l]
    rfl
end
end Go.Proofs.YtgabidgpngiecaaGreatPlain
