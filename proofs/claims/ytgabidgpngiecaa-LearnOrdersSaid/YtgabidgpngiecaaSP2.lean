/- Plain facts: where symMerge cuts. Conditions: less is a strict weak order. -/
import Derived.Test.YtgabidgpngiecaaSP1
namespace Go.Proofs.YtgabidgpngiecaaPlain
open Go.Sort
section
variable {α : Type} {lt : α → α → Bool}
theorem at_x [Inhabited α] {A X R : List α} {t p : Nat} (hp : p = A.length + t) (ht : t < X.length) : (A ++ (X ++ R)).toArray[p]! = X[t] := by
  subst hp
  rw [getElem!_pos _ _ (by simp; omega)]
  simp [ht]
theorem srt_le {l : List α} (hO : SWO lt) (h : Srt lt l) {i j : Nat} (hi : i ≤ j) (hj : j < l.length) : lt l[j] (l[i]'(by omega)) = false := by
  rcases Nat.lt_or_eq_of_le hi with h1 | rfl
  · exact (List.pairwise_iff_getElem.1 h) i j (by omega) hj h1
  · exact hO.irrefl _
theorem mono_not {p : Nat → Bool} {r : Bool} {lo hi : Nat} (h : ∀ t t', lo ≤ t → t ≤ t' → t' < hi → p t' = r → p t = r) : ∀ t t', lo ≤ t → t ≤ t' → t' < hi → p t = (!r) → p t' = !r := by
  intro t t' h1 h2 h3 h4
  cases hp : p t' == r with
  | true =>
    have := h t t' h1 h2 h3 (eq_of_beq hp)
    rw [this] at h4
    cases r <;> cases h4
  | false =>
    have : p t' ≠ r := fun e => by rw [e] at hp; simp at hp
    cases hq : p t' <;> cases r <;> simp_all
/-- One element ahead of a sorted list. -/
theorem mrg_one_left {x : α} {Y : List α} {s : Nat} (h1 : ∀ t (ht : t < Y.length), t < s → lt Y[t] x = true) (h2 : ∀ t (ht : t < Y.length), s ≤ t → lt Y[t] x = false) : mrg lt [x] Y = Y.take s ++ x :: Y.drop s := by
  have e1 := mrg_split (lt := lt) (X1 := []) (X2 := [x]) (Y1 := Y.take s) (Y2 := Y.drop s) (fun _ h => by cases h) (fun a ha y hy => by
    rw [List.mem_singleton] at ha; subst ha
    obtain ⟨t, ht, rfl⟩ := List.getElem_of_mem hy
    rw [List.getElem_take]
    rw [List.length_take] at ht
    exact h1 t (by omega) (by omega))
  have e2 := mrg_split (lt := lt) (X1 := [x]) (X2 := []) (Y1 := []) (Y2 := Y.drop s) (fun a ha y hy => by
    rw [List.mem_singleton] at ha; subst ha
    obtain ⟨t, ht, rfl⟩ := List.getElem_of_mem hy
    rw [List.getElem_drop]
    rw [List.length_drop] at ht
    exact h2 _ (by omega) (by omega)) (fun _ h => by cases h)
  rw [List.take_append_drop, List.nil_append, mrg_nil] at e1
  rw [List.append_nil, List.nil_append, mrg_nil', mrg_nil] at e2
  rw [e1, e2]
  rfl
/-- One element behind a sorted list. -/
theorem mrg_one_right {y : α} {X : List α} {s : Nat} (h1 : ∀ t (ht : t < X.length), t < s → lt y X[t] = false) (h2 : ∀ t (ht : t < X.length), s ≤ t → lt y X[t] = true) : mrg lt X [y] = X.take s ++ y :: X.drop s := by
  have e1 := mrg_split (lt := lt) (X1 := X.take s) (X2 := X.drop s) (Y1 := []) (Y2 := [y]) (fun a ha b hb => by
    rw [List.mem_singleton] at hb; subst hb
    obtain ⟨t, ht, rfl⟩ := List.getElem_of_mem ha
    rw [List.getElem_take]
    rw [List.length_take] at ht
    exact h1 t (by omega) (by omega)) (fun _ _ _ h => by cases h)
  have e2 := mrg_split (lt := lt) (X1 := []) (X2 := X.drop s) (Y1 := [y]) (Y2 := []) (fun _ h => by cases h) (fun a ha b hb => by
    rw [List.mem_singleton] at hb; subst hb
    obtain ⟨t, ht, rfl⟩ := List.getElem_of_mem ha
    rw [List.getElem_drop]
    rw [List.length_drop] at ht
    exact h2 _ (by omega) (by omega))
  rw [List.take_append_drop, List.nil_append, mrg_nil'] at e1
  rw [List.append_nil, List.nil_append, mrg_nil, mrg_nil'] at e2
  rw [e1, e2]
  rfl
/-- The cut in the midst. -/
theorem mrg_mid (hO : SWO lt) {X Y : List α} (hX : Srt lt X) (hY : Srt lt Y) {s t : Nat} (hs : s ≤ X.length) (ht : t ≤ Y.length)
    (h1 : 0 < s → t < Y.length → ∀ (p : s - 1 < X.length) (q : t < Y.length), lt Y[t] X[s - 1] = false) (h2 : s < X.length → 0 < t → ∀ (p : s < X.length) (q : t - 1 < Y.length), lt Y[t - 1] X[s] = true) :
    mrg lt X Y = mrg lt (X.take s) (Y.take t) ++ mrg lt (X.drop s) (Y.drop t) := by
  have e := mrg_split (lt := lt) (X1 := X.take s) (X2 := X.drop s) (Y1 := Y.take t) (Y2 := Y.drop t) (fun x hx y hy => ?_) (fun x hx y hy => ?_)
  · rw [List.take_append_drop, List.take_append_drop] at e
    exact e
  · obtain ⟨i, hi, rfl⟩ := List.getElem_of_mem hx
    obtain ⟨j, hj, rfl⟩ := List.getElem_of_mem hy
    rw [List.getElem_take, List.getElem_drop]
    rw [List.length_take] at hi
    rw [List.length_drop] at hj
    have g1 := h1 (by omega) (by omega) (by omega) (by omega)
    have g2 := srt_le hO hX (i := i) (j := s - 1) (by omega) (by omega)
    have g3 := srt_le hO hY (i := t) (j := t + j) (by omega) (by omega)
    exact hO.ntrans _ _ _ g3 (hO.ntrans _ _ _ g1 g2)
  · obtain ⟨i, hi, rfl⟩ := List.getElem_of_mem hx
    obtain ⟨j, hj, rfl⟩ := List.getElem_of_mem hy
    rw [List.getElem_take, List.getElem_drop]
    rw [List.length_drop] at hi
    rw [List.length_take] at hj
    have g1 := h2 (by omega) (by omega) (by omega) (by omega)
    have g2 := srt_le hO hX (i := s) (j := s + i) (by omega) (by omega)
    have g3 := srt_le hO hY (i := j) (j := t - 1) (by omega) (by omega)
    exact swo_lt_of' hO (swo_lt_of hO g1 g2) g3
/-- Below an element that is less, all are less. -/
theorem srt_lt_left (hO : SWO lt) {Y : List α} (hY : Srt lt Y) {x : α} {i j : Nat} (hij : i ≤ j) (hj : j < Y.length) (h : lt Y[j] x = true) : lt (Y[i]'(by omega)) x = true := swo_lt_of' hO h (srt_le hO hY hij hj)
theorem srt_ge_right (hO : SWO lt) {Y : List α} (hY : Srt lt Y) {x : α} {i j : Nat} (hij : i ≤ j) (hj : j < Y.length) (h : lt (Y[i]'(by omega)) x = false) : lt Y[j] x = false := hO.ntrans _ _ _ (srt_le hO hY hij hj) h
theorem srt_lt_right (hO : SWO lt) {X : List α} (hX : Srt lt X) {y : α} {i j : Nat} (hij : i ≤ j) (hj : j < X.length) (h : lt y (X[i]'(by omega)) = true) : lt y X[j] = true := swo_lt_of hO h (srt_le hO hX hij hj)
theorem srt_ge_left (hO : SWO lt) {X : List α} (hX : Srt lt X) {y : α} {i j : Nat} (hij : i ≤ j) (hj : j < X.length) (h : lt y X[j] = false) : lt y (X[i]'(by omega)) = false := hO.ntrans _ _ _ h (srt_le hO hX hij hj)
end
end Go.Proofs.YtgabidgpngiecaaPlain
