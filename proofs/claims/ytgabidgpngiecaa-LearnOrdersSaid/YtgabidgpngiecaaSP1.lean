/- Plain facts: stable merging and sorting of lists. Conditions: less is a strict weak order. -/
import Derived.Sort.Statements
namespace Go.Proofs.YtgabidgpngiecaaPlain
open Go.Sort
section
variable {α : Type} {lt : α → α → Bool}

/-- Two lists merged: of the second comes ahead only what is less. -/
def mrg (lt : α → α → Bool) : List α → List α → List α
  | [], Y => Y
  | x :: X, [] => x :: X
  | x :: X, y :: Y => if lt y x then y :: mrg lt (x :: X) Y else x :: mrg lt X (y :: Y)
termination_by X Y => X.length + Y.length
/-- A list sorted, equal ones in their own order. -/
def stab (lt : α → α → Bool) : List α → List α
  | [] => []
  | x :: l => mrg lt [x] (stab lt l)
def Srt (lt : α → α → Bool) (l : List α) : Prop := l.Pairwise fun x y => lt y x = false

theorem set_mid (A : List α) (x y : α) (B : List α) : (A ++ x :: B).toArray.setIfInBounds A.length y = (A ++ y :: B).toArray := by simp
theorem mrg_nil (Y : List α) : mrg lt [] Y = Y := by rw [mrg]
theorem mrg_nil' (X : List α) : mrg lt X [] = X := by cases X <;> rw [mrg]
theorem mrg_lt {x y : α} {X Y : List α} (h : lt y x = true) : mrg lt (x :: X) (y :: Y) = y :: mrg lt (x :: X) Y := by rw [mrg, if_pos h]
theorem mrg_ge {x y : α} {X Y : List α} (h : lt y x = false) : mrg lt (x :: X) (y :: Y) = x :: mrg lt X (y :: Y) := by rw [mrg, if_neg (by rw [h]; decide)]
theorem mrg_perm : ∀ X Y : List α, (mrg lt X Y).Perm (X ++ Y)
  | [], Y => by rw [mrg_nil]; exact List.Perm.refl _
  | x :: X, [] => by rw [mrg_nil', List.append_nil]
  | x :: X, y :: Y => by
    cases h : lt y x with
    | true => rw [mrg_lt h]; exact ((mrg_perm (x :: X) Y).cons y).trans List.perm_middle.symm
    | false => rw [mrg_ge h]; exact (mrg_perm X (y :: Y)).cons x
termination_by X Y => X.length + Y.length
theorem mrg_mem {X Y : List α} {z : α} : z ∈ mrg lt X Y ↔ z ∈ X ∨ z ∈ Y := by rw [(mrg_perm X Y).mem_iff, List.mem_append]
theorem mrg_length (X Y : List α) : (mrg lt X Y).length = X.length + Y.length := by rw [(mrg_perm X Y).length_eq, List.length_append]
theorem mrg_pairwise {Q R : α → α → Prop} (hlt : ∀ x y, lt y x = true → Q y x) (hge : ∀ x y, lt y x = false → R x y → Q x y) (tr : ∀ x y z, lt y x = true → Q x z → Q y z) (tg : ∀ x y z, lt y x = false → Q y z → R x z → Q x z) :
    ∀ {X Y : List α}, X.Pairwise Q → Y.Pairwise Q → (∀ x ∈ X, ∀ y ∈ Y, R x y) → (mrg lt X Y).Pairwise Q
  | [], Y, _, hY, _ => by rw [mrg_nil]; exact hY
  | x :: X, [], hX, _, _ => by rw [mrg_nil']; exact hX
  | x :: X, y :: Y, hX, hY, hR => by
    rw [List.pairwise_cons] at hX hY
    cases h : lt y x with
    | true =>
      rw [mrg_lt h, List.pairwise_cons]
      refine ⟨fun z hz => ?_, mrg_pairwise hlt hge tr tg (List.pairwise_cons.2 hX) hY.2 fun a ha b hb => hR a ha b (List.mem_cons_of_mem _ hb)⟩
      rcases mrg_mem.1 hz with hz | hz
      · rcases List.mem_cons.1 hz with rfl | hz
        · exact hlt _ _ h
        · exact tr _ _ _ h (hX.1 z hz)
      · exact hY.1 z hz
    | false =>
      rw [mrg_ge h, List.pairwise_cons]
      refine ⟨fun z hz => ?_, mrg_pairwise hlt hge tr tg hX.2 (List.pairwise_cons.2 hY) fun a ha b hb => hR a (List.mem_cons_of_mem _ ha) b hb⟩
      have hx := hR x List.mem_cons_self
      rcases mrg_mem.1 hz with hz | hz
      · exact hX.1 z hz
      · rcases List.mem_cons.1 hz with rfl | hz'
        · exact hge _ _ h (hx _ List.mem_cons_self)
        · exact tg _ _ _ h (hY.1 z hz') (hx _ (List.mem_cons_of_mem _ hz'))
termination_by X Y => X.length + Y.length
theorem swo_asymm (hO : SWO lt) {x y : α} (h : lt x y = true) : lt y x = false := by
  cases h2 : lt y x with
  | false => rfl
  | true => have := hO.trans _ _ _ h h2; rw [hO.irrefl] at this; cases this
theorem swo_lt_of (hO : SWO lt) {x y z : α} (h : lt x y = true) (h2 : lt z y = false) : lt x z = true := by
  cases h3 : lt x z with
  | true => rfl
  | false => have := hO.ntrans _ _ _ h3 h2; rw [h] at this; cases this
theorem swo_lt_of' (hO : SWO lt) {x y z : α} (h : lt x y = true) (h2 : lt x z = false) : lt z y = true := by
  cases h3 : lt z y with
  | true => rfl
  | false => have := hO.ntrans _ _ _ h2 h3; rw [h] at this; cases this
theorem mrg_srt (hO : SWO lt) {X Y : List α} (hX : Srt lt X) (hY : Srt lt Y) : Srt lt (mrg lt X Y) :=
  mrg_pairwise (R := fun _ _ => True) (fun _ _ h => swo_asymm hO h) (fun _ _ h _ => h) (fun _ _ _ h hz => by
    cases h3 : lt _ _ with
    | false => rfl
    | true => have := hO.trans _ _ _ h3 h; rw [hz] at this; cases this) (fun x y z h hz _ => hO.ntrans z y x hz h) hX hY (fun _ _ _ _ => trivial)
theorem mrg_assoc (hO : SWO lt) : ∀ X Y Z : List α, mrg lt (mrg lt X Y) Z = mrg lt X (mrg lt Y Z)
  | [], Y, Z => by rw [mrg_nil, mrg_nil]
  | x :: X, [], Z => by rw [mrg_nil', mrg_nil]
  | x :: X, y :: Y, [] => by rw [mrg_nil', mrg_nil']
  | x :: X, y :: Y, z :: Z => by
    cases hyx : lt y x with
    | true =>
      rw [mrg_lt hyx]
      cases hzy : lt z y with
      | true =>
        have hzx : lt z x = true := hO.trans _ _ _ hzy hyx
        rw [mrg_lt hzy, mrg_lt hzy, mrg_lt hzx, ← mrg_assoc hO (x :: X) (y :: Y) Z, mrg_lt hyx]
      | false => rw [mrg_ge hzy, mrg_ge hzy, mrg_lt hyx, mrg_assoc hO (x :: X) Y (z :: Z)]
    | false =>
      rw [mrg_ge hyx]
      cases hzy : lt z y with
      | true =>
        cases hzx : lt z x with
        | true => rw [mrg_lt hzx, mrg_lt hzy, mrg_lt hzx, ← mrg_assoc hO (x :: X) (y :: Y) Z, mrg_ge hyx]
        | false => rw [mrg_ge hzx, mrg_lt hzy, mrg_ge hzx, mrg_assoc hO X (y :: Y) (z :: Z), mrg_lt hzy]
      | false =>
        have hzx : lt z x = false := hO.ntrans _ _ _ hzy hyx
        rw [mrg_ge hzx, mrg_ge hzy, mrg_ge hyx, mrg_assoc hO X (y :: Y) (z :: Z), mrg_ge hzy]
termination_by X Y Z => X.length + Y.length + Z.length
theorem stab_append (hO : SWO lt) : ∀ X Y : List α, stab lt (X ++ Y) = mrg lt (stab lt X) (stab lt Y)
  | [], Y => by rw [List.nil_append, stab, mrg_nil]
  | x :: X, Y => by rw [List.cons_append, stab, stab, stab_append hO X Y, mrg_assoc hO]
theorem stab_one (x : α) : stab lt [x] = [x] := by rw [stab, stab, mrg_nil']
theorem stab_perm : ∀ l : List α, (stab lt l).Perm l
  | [] => List.Perm.refl _
  | x :: l => by rw [stab]; exact (mrg_perm _ _).trans ((stab_perm l).cons x)
theorem stab_length (l : List α) : (stab lt l).length = l.length := (stab_perm l).length_eq
theorem stab_srt (hO : SWO lt) : ∀ l : List α, Srt lt (stab lt l)
  | [] => List.Pairwise.nil
  | _ :: l => mrg_srt hO (List.pairwise_singleton ..) (stab_srt hO l)
/-- Of two that are equal the one that stood ahead stands ahead. -/
theorem stab_stable (hO : SWO lt) {R : α → α → Prop} : ∀ {l : List α}, l.Pairwise R → (stab lt l).Pairwise fun x y => lt x y = true ∨ (lt y x = false ∧ R x y)
  | [], _ => List.Pairwise.nil
  | x :: l, h => by
    rw [List.pairwise_cons] at h
    rw [stab]
    refine mrg_pairwise (R := R) (fun _ _ h => .inl h) (fun _ _ h hr => .inr ⟨h, hr⟩) (fun a b c h hq => ?_) (fun a b c h hq hr => ?_) (List.pairwise_singleton ..) (stab_stable hO h.2) fun a ha b hb => ?_
    · rcases hq with hq | ⟨hq, _⟩
      · exact .inl (hO.trans _ _ _ h hq)
      · exact .inl (swo_lt_of hO h hq)
    · rcases hq with hq | ⟨hq, _⟩
      · exact .inl (swo_lt_of' hO hq h)
      · exact .inr ⟨hO.ntrans _ _ _ hq h, hr⟩
    · rw [List.mem_singleton] at ha
      subst ha
      exact h.1 b ((stab_perm l).mem_iff.1 hb)
theorem mrg_split : ∀ {X1 X2 Y1 Y2 : List α}, (∀ x ∈ X1, ∀ y ∈ Y2, lt y x = false) → (∀ x ∈ X2, ∀ y ∈ Y1, lt y x = true) → mrg lt (X1 ++ X2) (Y1 ++ Y2) = mrg lt X1 Y1 ++ mrg lt X2 Y2
  | [], X2, [], Y2, _, _ => by rw [mrg_nil]; rfl
  | [], [], y :: Y1, Y2, _, _ => by rw [List.nil_append, mrg_nil, mrg_nil, mrg_nil]
  | [], x :: X2, y :: Y1, Y2, _, h2 => by
    have := mrg_split (X1 := []) (X2 := x :: X2) (Y1 := Y1) (Y2 := Y2) (fun _ h => by cases h) (fun a ha b hb => h2 a ha b (List.mem_cons_of_mem _ hb))
    rw [List.nil_append, mrg_nil] at this
    rw [List.nil_append, List.cons_append, mrg_lt (h2 x List.mem_cons_self y List.mem_cons_self), this, mrg_nil]
    rfl
  | x :: X1, X2, [], [], _, _ => by rw [List.append_nil, mrg_nil', mrg_nil', mrg_nil']
  | x :: X1, X2, [], y :: Y2, h1, _ => by
    have := mrg_split (X1 := X1) (X2 := X2) (Y1 := []) (Y2 := y :: Y2) (fun a ha b hb => h1 a (List.mem_cons_of_mem _ ha) b hb) (fun _ _ _ h => by cases h)
    rw [List.nil_append, mrg_nil'] at this
    rw [List.nil_append, List.cons_append, mrg_ge (h1 x List.mem_cons_self y List.mem_cons_self), this, mrg_nil']
    rfl
  | x :: X1, X2, y :: Y1, Y2, h1, h2 => by
    cases h : lt y x with
    | true =>
      rw [List.cons_append, List.cons_append, mrg_lt h, mrg_lt h, List.cons_append, ← List.cons_append, mrg_split h1 (fun a ha b hb => h2 a ha b (List.mem_cons_of_mem _ hb))]
    | false =>
      rw [List.cons_append, List.cons_append, mrg_ge h, mrg_ge h, List.cons_append, ← List.cons_append, mrg_split (fun a ha b hb => h1 a (List.mem_cons_of_mem _ ha) b hb) h2]
termination_by X1 X2 Y1 Y2 => X1.length + Y1.length + X2.length + Y2.length
end

/-! ### In arrays -/
section
variable {α : Type} [Inhabited α] {lt : α → α → Bool}
theorem at_mid (A : List α) (x : α) (B : List α) : (A ++ x :: B).toArray[A.length]! = x := by
  rw [getElem!_pos _ _ (by simp)]
  simp
theorem at_mid' {A : List α} {x : α} {B : List α} {n : Nat} (h : n = A.length) : (A ++ x :: B).toArray[n]! = x := h ▸ at_mid A x B
theorem swp_mid {A M B : List α} {x y : α} {i j : Nat} (hi : i = A.length) (hj : j = A.length + 1 + M.length) : swp (A ++ x :: (M ++ y :: B)).toArray i j = (A ++ y :: (M ++ x :: B)).toArray := by
  subst hi hj
  have e1 : (A ++ x :: (M ++ y :: B)).toArray[A.length + 1 + M.length]! = y := by
    have h := at_mid (A ++ x :: M) y B
    rw [show (A ++ x :: M).length = A.length + 1 + M.length by simp; omega, List.append_assoc, List.cons_append] at h
    exact h
  unfold swp
  rw [e1, at_mid, set_mid]
  have h := set_mid (A ++ y :: M) y x B
  rw [show (A ++ y :: M).length = A.length + 1 + M.length by simp; omega, List.append_assoc, List.cons_append, List.append_assoc, List.cons_append] at h
  exact h
theorem swp_mid' {A M B : List α} {x y : α} {i j : Nat} (hi : i = A.length) (hj : j = A.length + 1 + M.length) : swp (A ++ x :: (M ++ y :: B)).toArray j i = (A ++ y :: (M ++ x :: B)).toArray := by
  subst hi hj
  have e1 : (A ++ x :: (M ++ y :: B)).toArray[A.length + 1 + M.length]! = y := by
    have h := at_mid (A ++ x :: M) y B
    rw [show (A ++ x :: M).length = A.length + 1 + M.length by simp; omega, List.append_assoc, List.cons_append] at h
    exact h
  unfold swp
  rw [e1, at_mid]
  have e3 : (A ++ x :: (M ++ y :: B)).toArray.setIfInBounds (A.length + 1 + M.length) x = (A ++ x :: (M ++ x :: B)).toArray := by
    have h := set_mid (A ++ x :: M) y x B
    rw [show (A ++ x :: M).length = A.length + 1 + M.length by simp; omega, List.append_assoc, List.cons_append, List.append_assoc, List.cons_append] at h
    exact h
  rw [e3, set_mid]
theorem insInner_mrg (hO : SWO lt) (A : List α) (x : α) : ∀ (n : Nat) (P B : List α), P.length = n → Srt lt P → insInner lt A.length (A.length + n) (A ++ (P ++ x :: B)).toArray = (A ++ (mrg lt P [x] ++ B)).toArray
  | 0, P, B, hn, _ => by
    obtain rfl := List.eq_nil_of_length_eq_zero hn
    rw [mrg_nil]
    cases h : A.length + 0 with
    | zero => rw [insInner]; rfl
    | succ j =>
      rw [insInner, if_neg]
      · rfl
      · simp; omega
  | n + 1, P, B, hn, hP => by
    obtain ⟨P', p, rfl⟩ : ∃ P' p, P = P' ++ [p] := ⟨P.dropLast, P.getLast (by intro e; simp [e] at hn), (List.dropLast_concat_getLast _).symm⟩
    have hl : P'.length = n := by simpa using hn
    have e1 : (A ++ (P' ++ [p] ++ x :: B)) = (A ++ P') ++ p :: ([] ++ x :: B) := by simp
    have g0 : (A ++ (P' ++ [p] ++ x :: B)).toArray[A.length + n]! = p := by rw [e1]; exact at_mid' (by simp [hl])
    have g1 : (A ++ (P' ++ [p] ++ x :: B)).toArray[A.length + n + 1]! = x := by
      have : (A ++ (P' ++ [p] ++ x :: B)) = (A ++ P' ++ [p]) ++ x :: B := by simp
      rw [this]; exact at_mid' (by simp [hl]; omega)
    rw [← Nat.add_assoc, insInner, g0, g1]
    unfold Srt at hP
    rw [List.pairwise_append] at hP
    cases h : lt x p with
    | true =>
      rw [if_pos (by simp; omega), e1, swp_mid' (by simp [hl]) (by simp [hl])]
      have := insInner_mrg hO A x n P' (p :: B) hl hP.1
      rw [show (A ++ P') ++ x :: ([] ++ p :: B) = A ++ (P' ++ x :: (p :: B)) by simp, this]
      have e2 := mrg_split (lt := lt) (X1 := P') (X2 := [p]) (Y1 := [x]) (Y2 := []) (fun _ _ _ h => by cases h) (fun a ha b hb => by rw [List.mem_singleton] at ha hb; subst ha hb; exact h)
      rw [List.append_nil] at e2
      rw [e2, mrg_nil']
      simp
    | false =>
      rw [if_neg (by simp)]
      have e2 := mrg_split (lt := lt) (X1 := P' ++ [p]) (X2 := []) (Y1 := []) (Y2 := [x]) (fun a ha b hb => by
        rw [List.mem_singleton] at hb; subst hb
        rcases List.mem_append.1 ha with ha | ha
        · exact hO.ntrans _ _ _ h (hP.2.2 a ha p (by simp))
        · rw [List.mem_singleton] at ha; subst ha; exact h) (fun _ h => by cases h)
      rw [List.append_nil, List.nil_append, mrg_nil', mrg_nil] at e2
      rw [e2]
      simp
theorem insOuter_stab (hO : SWO lt) (A B : List α) : ∀ (M2 M1 : List α), insOuter lt A.length (A.length + (M1.length + M2.length)) (A.length + M1.length) (A ++ (stab lt M1 ++ (M2 ++ B))).toArray = (A ++ (stab lt (M1 ++ M2) ++ B)).toArray
  | [], M1 => by
    rw [insOuter, if_neg (by simp)]
    simp
  | x :: M2, M1 => by
    rw [insOuter, if_pos (by simp)]
    have e := insInner_mrg hO A x M1.length (stab lt M1) (M2 ++ B) (stab_length M1) (stab_srt hO M1)
    rw [List.cons_append, e, ← stab_one (lt := lt) x, ← stab_append hO]
    have := insOuter_stab hO A B M2 (M1 ++ [x])
    simp only [List.length_append, List.length_cons, List.length_nil, Nat.zero_add] at this
    rw [show M1.length + (x :: M2).length = M1.length + 1 + M2.length by simp; omega, Nat.add_assoc A.length, this]
    simp
theorem insertionSort_stab (hO : SWO lt) (A M B : List α) {a b : Nat} (ha : a = A.length) (hb : b = A.length + M.length) : Go.Sort.insertionSort lt (A ++ (M ++ B)).toArray a b = (A ++ (stab lt M ++ B)).toArray := by
  subst ha hb
  unfold Go.Sort.insertionSort
  cases M with
  | nil => rw [insOuter, if_neg (by simp)]; rfl
  | cons x M =>
    have := insOuter_stab hO A B M [x]
    rw [stab_one] at this
    rw [show A.length + (x :: M).length = A.length + ([x].length + M.length) by simp; omega]
    simpa using this
end
end Go.Proofs.YtgabidgpngiecaaPlain
