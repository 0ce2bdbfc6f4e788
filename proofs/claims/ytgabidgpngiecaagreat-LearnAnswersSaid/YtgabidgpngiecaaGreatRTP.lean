/- Plain facts: the least measure is the greatest worth; there is one best cut. Conditions: none. -/
import Derived.Test.YtgabidgpngiecaaGreatRT1
namespace Go.Proofs.YtgabidgpngiecaaGreat
open Go.RowKit Go.Proofs.YtgabidgpngiecaaGreatKit Go.Proofs.YtgabidgpngiecaaGreatPlain

theorem fr_lt {p q A D a d : Int} (hD : 0 < D) (hq : 0 < q) (hd : 0 < d) (h1 : p * D ≤ A * q) (h2 : A * d < a * D) : p * d < a * q := by
  have e1 := Int.mul_le_mul_of_nonneg_right h1 (Int.le_of_lt hd)
  have e2 := Int.mul_lt_mul_of_pos_right h2 hq
  have e3 : (p * d) * D < (a * q) * D := by
    rw [Int.mul_right_comm p d D, Int.mul_right_comm a q D]
    rw [Int.mul_right_comm A q d] at e1
    omega
  exact Int.lt_of_mul_lt_mul_right e3 (Int.le_of_lt hD)
theorem fr_lt' {p q A D a d : Int} (hD : 0 < D) (hq : 0 < q) (hd : 0 < d) (h1 : p * D < A * q) (h2 : A * d ≤ a * D) : p * d < a * q := by
  have e1 := Int.mul_lt_mul_of_pos_right h1 hd
  have e2 := Int.mul_le_mul_of_nonneg_right h2 (Int.le_of_lt hq)
  have e3 : (p * d) * D < (a * q) * D := by
    rw [Int.mul_right_comm p d D, Int.mul_right_comm a q D]
    rw [Int.mul_right_comm A q d] at e1
    omega
  exact Int.lt_of_mul_lt_mul_right e3 (Int.le_of_lt hD)
theorem fr_eq {p q A D a d : Int} (hD : 0 < D) (h1 : p * D = A * q) (h2 : A * d = a * D) : p * d = a * q := by
  have e1 : (p * d) * D = (a * q) * D := by
    rw [Int.mul_right_comm p d D, h1, Int.mul_right_comm A q d, h2, Int.mul_right_comm a q D]
  exact Int.eq_of_mul_eq_mul_right (by omega) e1

def nT (T : List Row) (c : Nat) (x : Int) : Int := wNum (cnt8 (lowC c x T)) (cnt8 (highC c x T))
def dT (T : List Row) (c : Nat) (x : Int) : Int := wDen (cnt8 (lowC c x T)) (cnt8 (highC c x T))
theorem low_high_len (c : Nat) (x : Int) : ∀ T : List Row, (lowC c x T).length + (highC c x T).length = T.length
  | [] => rfl
  | r :: T => by
    have ih := low_high_len c x T
    unfold lowC highC at ih ⊢
    by_cases h : r.x c ≤ x
    · rw [List.filter_cons_of_pos (by simpa using h), List.filter_cons_of_neg (by simpa using h), List.length_cons, List.length_cons]; omega
    · rw [List.filter_cons_of_neg (by simpa using h), List.filter_cons_of_pos (by simpa using h), List.length_cons, List.length_cons]; omega
theorem low_ok {c : Nat} {x : Int} {T : List Row} (hok : ∀ r ∈ T, okRow r) : ∀ r ∈ lowC c x T, okRow r := fun r hr => hok r (List.mem_filter.1 hr).1
theorem high_ok {c : Nat} {x : Int} {T : List Row} (hok : ∀ r ∈ T, okRow r) : ∀ r ∈ highC c x T, okRow r := fun r hr => hok r (List.mem_filter.1 hr).1
theorem dT_len {c : Nat} {x : Int} {T : List Row} (hok : ∀ r ∈ T, okRow r) : dT T c x = ((lowC c x T).length : Int) * ((highC c x T).length : Int) := by
  unfold dT wDen
  rw [totC_len (low_ok hok), totC_len (high_ok hok)]
theorem measure_eq {c : Nat} {x : Int} {T : List Row} (hok : ∀ r ∈ T, okRow r) : mNum (lowC c x T) (highC c x T) = (T.length : Int) * dT T c x - nT T c x ∧ mDen (lowC c x T) (highC c x T) = dT T c x := by
  have hl := low_high_len c x T
  rw [dT_len hok]
  unfold mNum mDen nT wNum
  rw [totC_len (low_ok hok), totC_len (high_ok hok), ← hl]
  refine ⟨?_, rfl⟩
  push_cast
  grind
/-- A cut that parts rows. -/
def cand (T : List Row) (c : Nat) (x : Int) : Prop := (∃ r ∈ T, r.x c = x) ∧ ∃ r ∈ T, x < r.x c
theorem cand_pos {T : List Row} {c : Nat} {x : Int} (hok : ∀ r ∈ T, okRow r) (h : cand T c x) : 0 < dT T c x := by
  rw [dT_len hok]
  obtain ⟨⟨r, hr, hx⟩, s, hs, hy⟩ := h
  have h1 : 0 < (lowC c x T).length := List.length_pos_of_mem (List.mem_filter.2 ⟨hr, by simp; omega⟩)
  have h2 : 0 < (highC c x T).length := List.length_pos_of_mem (List.mem_filter.2 ⟨hs, by simp; omega⟩)
  exact Int.mul_pos (by omega) (by omega)
/-- The best of some cuts. -/
structure Best (T : List Row) (P : Nat → Int → Prop) (s : Cut) : Prop where
  no : s.ok = false → ∀ c x, ¬ P c x
  yes : s.ok = true → P s.col s.cut ∧ s.num = nT T s.col s.cut ∧ s.den = dT T s.col s.cut ∧
    ∀ c x, P c x → nT T c x * s.den < s.num * dT T c x ∨ (nT T c x * s.den = s.num * dT T c x ∧ (s.col < c ∨ (s.col = c ∧ s.cut ≤ x)))
def rStep (T : List Row) (c : Nat) (s : Cut) (x : Int) : Cut :=
  if s.ok = false ∨ s.num * dT T c x < nT T c x * s.den ∨ (s.num * dT T c x = nT T c x * s.den ∧ c = s.col ∧ x < s.cut) then ⟨c, x, nT T c x, dT T c x, true⟩ else s
theorem Best.congr {T : List Row} {P P' : Nat → Int → Prop} {s : Cut} (h : Best T P s) (he : ∀ c x, P c x ↔ P' c x) : Best T P' s :=
  ⟨fun h1 c x h2 => h.no h1 c x ((he c x).2 h2), fun h1 => ⟨(he _ _).1 (h.yes h1).1, (h.yes h1).2.1, (h.yes h1).2.2.1, fun c x h2 => (h.yes h1).2.2.2 c x ((he c x).2 h2)⟩⟩
theorem Best.step {T : List Row} {P : Nat → Int → Prop} {s : Cut} {c : Nat} {x : Int} (h : Best T P s) (hd : ∀ c x, P c x → 0 < dT T c x) (hx : 0 < dT T c x) (hc : ∀ c' x', P c' x' → c' ≤ c) :
    Best T (fun c' x' => P c' x' ∨ (c' = c ∧ x' = x)) (rStep T c s x) := by
  unfold rStep
  split
  · next hcond =>
    refine ⟨(fun h1 => by cases h1), fun _ => ⟨.inr ⟨rfl, rfl⟩, rfl, rfl, fun c' x' hp => ?_⟩⟩
    rcases hp with hp | ⟨rfl, rfl⟩
    · cases hok : s.ok with
      | false => exact absurd hp (h.no hok c' x')
      | true =>
        obtain ⟨g1, g2, g3, g4⟩ := h.yes hok
        have hD := hd _ _ g1
        rw [← g3] at hD
        have hq := hd _ _ hp
        rcases hcond with h1 | h1 | ⟨h1, h2, h3⟩
        · rw [hok] at h1; cases h1
        · exact .inl (fr_lt hD hq hx (by rcases g4 c' x' hp with h2 | ⟨h2, _⟩ <;> omega) h1)
        · rcases g4 c' x' hp with h4 | ⟨h4, h5⟩
          · exact .inl (fr_lt' hD hq hx h4 (Int.le_of_eq h1))
          · refine .inr ⟨fr_eq hD h4 h1, ?_⟩
            show c < c' ∨ (c = c' ∧ x ≤ x')
            rcases h5 with h5 | ⟨h5, h6⟩
            · exact .inl (by omega)
            · exact .inr ⟨by omega, by omega⟩
    · exact .inr ⟨rfl, .inr ⟨rfl, Int.le_refl _⟩⟩
  · next hcond =>
    have hok : s.ok = true := by
      cases hok : s.ok with
      | false => exact absurd (.inl hok) hcond
      | true => rfl
    obtain ⟨g1, g2, g3, g4⟩ := h.yes hok
    refine ⟨fun h1 => (by rw [hok] at h1; cases h1), fun _ => ⟨.inl g1, g2, g3, fun c' x' hp => ?_⟩⟩
    rcases hp with hp | ⟨rfl, rfl⟩
    · exact g4 c' x' hp
    · have h1 : ¬ s.num * dT T c' x' < nT T c' x' * s.den := fun h1 => hcond (.inr (.inl h1))
      have hle := hc _ _ g1
      rcases Int.lt_or_eq_of_le (Int.not_lt.1 h1) with h2 | h2
      · exact .inl h2
      · refine .inr ⟨h2, ?_⟩
        by_cases h3 : s.col < c'
        · exact .inl h3
        · refine .inr ⟨by omega, ?_⟩
          refine Int.not_lt.1 fun h4 => hcond (.inr (.inr ⟨h2.symm, by omega, h4⟩))
theorem Best.one {T : List Row} {P : Nat → Int → Prop} {s s' : Cut} (h : Best T P s) (h' : Best T P s') : s.ok = s'.ok ∧ (s.ok = true → s.col = s'.col ∧ s.cut = s'.cut) := by
  cases hs : s.ok with
  | false =>
    cases hs' : s'.ok with
    | false => exact ⟨rfl, fun h => by cases h⟩
    | true => exact absurd (h'.yes hs').1 (h.no hs _ _)
  | true =>
    cases hs' : s'.ok with
    | false => exact absurd (h.yes hs).1 (h'.no hs' _ _)
    | true =>
      obtain ⟨g1, g2, g3, g4⟩ := h.yes hs
      obtain ⟨f1, f2, f3, f4⟩ := h'.yes hs'
      have a1 := g4 _ _ f1
      have a2 := f4 _ _ g1
      rw [← f2, ← f3] at a1
      rw [← g2, ← g3] at a2
      refine ⟨rfl, fun _ => ?_⟩
      rcases a1 with a1 | ⟨a1, b1⟩
      · rcases a2 with a2 | ⟨a2, _⟩ <;> omega
      · rcases a2 with a2 | ⟨_, b2⟩
        · omega
        · omega

/-! ### The model's best cut is the best of all -/
theorem num_at {L : List (Row × Nat)} (c : Nat) (x : Int) : numAt L c x = nT (expand L) c x ∧ denAt L c x = dT (expand L) c x := by
  unfold numAt denAt nT dT lowC highC
  rw [(expand_lowL c x L).1, (expand_lowL c x L).2]
  exact ⟨rfl, rfl⟩
theorem cut_step_eq {L : List (Row × Nat)} {s : Cut} {c : Nat} {x : Int} (h : s.ok = true → s.col = c → s.cut < x) : cutStep L c s x = rStep (expand L) c s x := by
  unfold cutStep rStep
  rw [(num_at c x).1, (num_at c x).2]
  by_cases hok : s.ok = false
  · rw [if_pos (.inl hok), if_pos (.inl hok)]
  · have hok' : s.ok = true := by simpa using hok
    by_cases h1 : s.num * dT (expand L) c x < nT (expand L) c x * s.den
    · rw [if_pos (.inr h1), if_pos (.inr (.inl h1))]
    · rw [if_neg (fun h => h.elim hok h1), if_neg]
      rintro (h2 | h2 | ⟨_, h3, h4⟩)
      · exact hok h2
      · exact h1 h2
      · have := h hok' h3.symm
        omega
theorem fold_best {L : List (Row × Nat)} {c : Nat} (hd : ∀ x, cand (expand L) c x → 0 < dT (expand L) c x) : ∀ (xs : List Int) (P : Nat → Int → Prop) (s : Cut), Best (expand L) P s → (∀ c x, P c x → 0 < dT (expand L) c x) → (∀ c' x', P c' x' → c' ≤ c) →
    (∀ x', P c x' → ∀ x ∈ xs, x' < x) → xs.Pairwise (· < ·) → (∀ x ∈ xs, cand (expand L) c x) → Best (expand L) (fun c' x' => P c' x' ∨ (c' = c ∧ x' ∈ xs)) (xs.foldl (cutStep L c) s)
  | [], P, s, h, _, _, _, _, _ => h.congr (fun c' x' => by simp)
  | x :: xs, P, s, h, hp, hc, hl, hpw, hcd => by
    rw [List.foldl_cons]
    have hx := hd x (hcd x List.mem_cons_self)
    have e : cutStep L c s x = rStep (expand L) c s x := cut_step_eq fun hok hcol => hl _ (hcol ▸ (h.yes hok).1) x List.mem_cons_self
    rw [e]
    rw [List.pairwise_cons] at hpw
    have h2 := fold_best hd xs (fun c' x' => P c' x' ∨ (c' = c ∧ x' = x)) (rStep (expand L) c s x) (h.step hp hx hc) (fun c' x' hq => by
      rcases hq with hq | ⟨rfl, rfl⟩
      · exact hp _ _ hq
      · exact hx) (fun c' x' hq => by
      rcases hq with hq | ⟨rfl, rfl⟩
      · exact hc _ _ hq
      · exact Nat.le_refl _) (fun x' hq y hy => by
      rcases hq with hq | ⟨_, rfl⟩
      · exact hl x' hq y (List.mem_cons_of_mem _ hy)
      · exact hpw.1 y hy) hpw.2 (fun y hy => hcd y (List.mem_cons_of_mem _ hy))
    refine h2.congr fun c' x' => ?_
    constructor
    · rintro ((h | ⟨h, h'⟩) | ⟨h, h'⟩)
      · exact .inl h
      · exact .inr ⟨h, h' ▸ List.mem_cons_self⟩
      · exact .inr ⟨h, List.mem_cons_of_mem _ h'⟩
    · rintro (h | ⟨h, h'⟩)
      · exact .inl (.inl h)
      · rcases List.mem_cons.1 h' with h' | h'
        · exact .inl (.inr ⟨h, h'⟩)
        · exact .inr ⟨h, h'⟩
theorem col_cand {L : List (Row × Nat)} (hL : ∀ p ∈ L, 0 < p.2) {c : Nat} {x : Int} : x ∈ (colL c L).dropLast ↔ cand (expand L) c x := by
  have hm : ∀ y, y ∈ colL c L ↔ ∃ r ∈ expand L, r.x c = y := fun y => by
    rw [colL_mem]
    constructor
    · rintro ⟨p, hp, rfl⟩
      exact ⟨p.1, mem_expand.2 ⟨p.2, hp, hL p hp⟩, rfl⟩
    · rintro ⟨r, hr, rfl⟩
      obtain ⟨n, hn, _⟩ := mem_expand.1 hr
      exact ⟨_, hn, rfl⟩
  constructor
  · intro hx
    obtain ⟨h1, y, h2, h3⟩ := dropLast_lt (colL_up c L) hx
    obtain ⟨r, hr, e⟩ := (hm y).1 h2
    exact ⟨(hm x).1 h1, r, hr, by omega⟩
  · rintro ⟨h1, r, hr, h2⟩
    have hx := (hm x).2 h1
    have hy := (hm (r.x c)).2 ⟨r, hr, rfl⟩
    have hup := colL_up c L
    obtain ⟨zs, z, e⟩ : ∃ zs z, colL c L = zs ++ [z] := ⟨(colL c L).dropLast, (colL c L).getLast (List.ne_nil_of_mem hx), (List.dropLast_concat_getLast _).symm⟩
    rw [e] at hx hy hup ⊢
    rw [List.dropLast_concat]
    rcases List.mem_append.1 hx with h | h
    · exact h
    · rw [List.mem_singleton] at h
      subst h
      rcases List.mem_append.1 hy with h | h
      · have := (List.pairwise_append.1 hup).2.2 _ h _ (List.mem_singleton.2 rfl)
        omega
      · rw [List.mem_singleton] at h
        omega
theorem best_to {L : List (Row × Nat)} (hL : ∀ p ∈ L, 0 < p.2 ∧ okRow p.1) : ∀ k, Best (expand L) (fun c x => c < k ∧ cand (expand L) c x) (bestTo L k)
  | 0 => ⟨fun _ c x h => absurd h.1 (by omega), fun h => by cases h⟩
  | k + 1 => by
    have hok := hok_of hL
    rw [bestTo]
    have h := fold_best (L := L) (c := k) (fun x hx => cand_pos hok hx) (colL k L).dropLast _ _ (best_to hL k) (fun c x hx => cand_pos hok hx.2) (fun c x hx => by have := hx.1; omega) (fun x hx => absurd hx.1 (by omega))
      ((colL_up k L).sublist (List.dropLast_sublist _)) (fun x hx => (col_cand (fun p hp => (hL p hp).1)).1 hx)
    refine h.congr fun c x => ?_
    constructor
    · rintro (⟨h1, h2⟩ | ⟨rfl, h2⟩)
      · exact ⟨by omega, h2⟩
      · exact ⟨by omega, (col_cand (fun p hp => (hL p hp).1)).1 h2⟩
    · rintro ⟨h1, h2⟩
      by_cases h3 : c < k
      · exact .inl ⟨h3, h2⟩
      · obtain rfl : c = k := by omega
        exact .inr ⟨rfl, (col_cand (fun p hp => (hL p hp).1)).2 h2⟩
theorem best_zero {L : List (Row × Nat)} : ∀ k, (bestTo L k).ok = false → bestTo L k = ⟨0, 0, 0, 0, false⟩
  | 0, _ => rfl
  | k + 1, h => by
    rw [bestTo] at h ⊢
    unfold bestIn at h ⊢
    obtain ⟨h1, h2⟩ := fold_ok _ _ h
    rw [h2, List.foldl_nil]
    exact best_zero k h1

/-! ### Candidates in the order of the reference -/
def Pr (T : List Row) (c i : Nat) (c' : Nat) (x' : Int) : Prop := cand T c' x' ∧ (c' < c ∨ (c' = c ∧ ∃ j, j < i ∧ ∃ h : j < T.length, T[j].x c = x'))
theorem Pr.start (T : List Row) (c' : Nat) (x' : Int) : ¬ Pr T 0 0 c' x' := by
  rintro ⟨_, h | ⟨_, j, h, _⟩⟩ <;> omega
theorem Pr.col (T : List Row) (c c' : Nat) (x' : Int) : Pr T c T.length c' x' ↔ Pr T (c + 1) 0 c' x' := by
  unfold Pr
  constructor
  · rintro ⟨h, h1 | ⟨rfl, _⟩⟩
    · exact ⟨h, .inl (by omega)⟩
    · exact ⟨h, .inl (by omega)⟩
  · rintro ⟨h, h1 | ⟨_, j, h1, _⟩⟩
    · by_cases h2 : c' < c
      · exact ⟨h, .inl h2⟩
      · obtain rfl : c' = c := by omega
        obtain ⟨⟨r, hr, hx⟩, _⟩ := id h
        obtain ⟨j, hj, e⟩ := List.getElem_of_mem hr
        exact ⟨h, .inr ⟨rfl, j, hj, hj, by rw [e]; exact hx⟩⟩
    · omega
theorem Pr.skip {T : List Row} {c i : Nat} (hi : i < T.length) (hn : ¬ cand T c (T[i].x c)) (c' : Nat) (x' : Int) : Pr T c i c' x' ↔ Pr T c (i + 1) c' x' := by
  unfold Pr
  constructor
  · rintro ⟨h, h1 | ⟨rfl, j, h1, h2⟩⟩
    · exact ⟨h, .inl h1⟩
    · exact ⟨h, .inr ⟨rfl, j, by omega, h2⟩⟩
  · rintro ⟨h, h1 | ⟨rfl, j, h1, h2, h3⟩⟩
    · exact ⟨h, .inl h1⟩
    · by_cases h4 : j = i
      · subst h4
        rw [← h3] at h
        exact absurd h hn
      · exact ⟨h, .inr ⟨rfl, j, by omega, h2, h3⟩⟩
theorem Pr.more {T : List Row} {c i : Nat} (hi : i < T.length) (hn : cand T c (T[i].x c)) (c' : Nat) (x' : Int) : (Pr T c i c' x' ∨ (c' = c ∧ x' = T[i].x c)) ↔ Pr T c (i + 1) c' x' := by
  unfold Pr
  constructor
  · rintro (⟨h, h1 | ⟨rfl, j, h1, h2⟩⟩ | ⟨rfl, rfl⟩)
    · exact ⟨h, .inl h1⟩
    · exact ⟨h, .inr ⟨rfl, j, by omega, h2⟩⟩
    · exact ⟨hn, .inr ⟨rfl, i, by omega, hi, rfl⟩⟩
  · rintro ⟨h, h1 | ⟨rfl, j, h1, h2, h3⟩⟩
    · exact .inl ⟨h, .inl h1⟩
    · by_cases h4 : j = i
      · subst h4
        exact .inr ⟨rfl, h3.symm⟩
      · exact .inl ⟨h, .inr ⟨rfl, j, by omega, h2, h3⟩⟩
end Go.Proofs.YtgabidgpngiecaaGreat
