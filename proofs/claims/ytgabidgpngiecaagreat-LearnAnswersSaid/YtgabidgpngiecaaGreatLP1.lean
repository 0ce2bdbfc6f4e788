/- Plain facts on rows of a model, their sums, and lines of least squares. Conditions: none. -/
namespace Go.Proofs.YtgabidgpngiecaaGreatPlain

structure Row where
  a : Int
  b : Int
  c : Int
  l : Int
  deriving DecidableEq
def Row.x (r : Row) (i : Nat) : Int := if i = 0 then r.a else if i = 1 then r.b else r.c
def okX (n : Int) : Prop := -1000 ≤ n ∧ n ≤ 1000
def okRow (r : Row) : Prop := okX r.a ∧ okX r.b ∧ okX r.c ∧ 0 ≤ r.l ∧ r.l < 8
instance (n : Int) : Decidable (okX n) := inferInstanceAs (Decidable (_ ∧ _))
instance (r : Row) : Decidable (okRow r) := inferInstanceAs (Decidable (_ ∧ _))
theorem okRow.x {r : Row} (h : okRow r) (i : Nat) : -1000 ≤ r.x i ∧ r.x i ≤ 1000 := by
  obtain ⟨h1, h2, h3, _⟩ := h
  unfold Row.x
  split
  · exact h1
  · split
    · exact h2
    · exact h3

/-! ### Sums -/
def sumf (f : Row → Int) : List Row → Int
  | [] => 0
  | r :: l => f r + sumf f l
theorem sumf_append (f : Row → Int) (l l' : List Row) : sumf f (l ++ l') = sumf f l + sumf f l' := by
  induction l with
  | nil => simp [sumf]
  | cons r l ih => simp only [List.cons_append, sumf, ih]; omega
theorem sumf_perm (f : Row → Int) {l l' : List Row} (h : l.Perm l') : sumf f l = sumf f l' := by
  induction h with
  | nil => rfl
  | cons x _ ih => simp only [sumf, ih]
  | swap x y l => simp only [sumf]; omega
  | trans _ _ h1 h2 => rw [h1, h2]
theorem sumf_replicate (f : Row → Int) (n : Nat) (r : Row) : sumf f (List.replicate n r) = (n : Int) * f r := by
  induction n with
  | zero => simp [sumf]
  | succ n ih => rw [List.replicate_succ, sumf, ih]; push_cast; grind
theorem sumf_congr {f g : Row → Int} {l : List Row} (h : ∀ r ∈ l, f r = g r) : sumf f l = sumf g l := by
  induction l with
  | nil => rfl
  | cons r l ih => rw [sumf, sumf, h r List.mem_cons_self, ih fun s hs => h s (List.mem_cons_of_mem _ hs)]
theorem sumf_add (f g : Row → Int) (l : List Row) : sumf (fun r => f r + g r) l = sumf f l + sumf g l := by
  induction l with
  | nil => simp [sumf]
  | cons r l ih => simp only [sumf, ih]; omega
theorem sumf_mul (k : Int) (f : Row → Int) (l : List Row) : sumf (fun r => k * f r) l = k * sumf f l := by
  induction l with
  | nil => simp [sumf]
  | cons r l ih => simp only [sumf, ih]; grind
theorem sumf_const (k : Int) (l : List Row) : sumf (fun _ => k) l = (l.length : Int) * k := by
  induction l with
  | nil => simp [sumf]
  | cons r l ih => simp only [sumf, ih, List.length_cons]; push_cast; grind
theorem sumf_nonneg {f : Row → Int} {l : List Row} (h : ∀ r ∈ l, 0 ≤ f r) : 0 ≤ sumf f l := by
  induction l with
  | nil => exact Int.le_refl 0
  | cons r l ih =>
    have h1 := h r List.mem_cons_self
    have h2 := ih fun s hs => h s (List.mem_cons_of_mem _ hs)
    simp only [sumf]; omega
theorem sumf_bound {f : Row → Int} {l : List Row} {k : Int} (h : ∀ r ∈ l, -k ≤ f r ∧ f r ≤ k) : -(l.length * k) ≤ sumf f l ∧ sumf f l ≤ l.length * k := by
  induction l with
  | nil => simp [sumf]
  | cons r l ih =>
    have h1 := h r List.mem_cons_self
    have h2 := ih fun s hs => h s (List.mem_cons_of_mem _ hs)
    have e : ((r :: l).length : Int) * k = l.length * k + k := by simp only [List.length_cons]; push_cast; grind
    rw [e]
    simp only [sumf]; omega

/-! ### Rows with how often they are there -/
def expand (s : List (Row × Nat)) : List Row := s.flatMap fun p => List.replicate p.2 p.1
def sume (f : Row → Int) : List (Row × Nat) → Int
  | [] => 0
  | p :: s => (p.2 : Int) * f p.1 + sume f s
theorem expand_cons (p : Row × Nat) (s : List (Row × Nat)) : expand (p :: s) = List.replicate p.2 p.1 ++ expand s := rfl
theorem sume_expand (f : Row → Int) (s : List (Row × Nat)) : sume f s = sumf f (expand s) := by
  induction s with
  | nil => rfl
  | cons p s ih => rw [sume, ih, expand_cons, sumf_append, sumf_replicate]
theorem expand_perm {s s' : List (Row × Nat)} (h : s.Perm s') : (expand s).Perm (expand s') := h.flatMap_right _
theorem mem_expand {r : Row} {s : List (Row × Nat)} : r ∈ expand s ↔ ∃ n, (r, n) ∈ s ∧ 0 < n := by
  simp only [expand, List.mem_flatMap, List.mem_replicate]
  constructor
  · rintro ⟨p, hp, h1, rfl⟩
    exact ⟨p.2, hp, by omega⟩
  · rintro ⟨n, hp, h1⟩
    exact ⟨(r, n), hp, by simp; omega, rfl⟩

/-! ### The denominator of a line -/
def disc (f : Row → Int) (l : List Row) : Int := (l.length : Int) * sumf (fun r => f r * f r) l - sumf f l * sumf f l
theorem disc_cons (f : Row → Int) (r : Row) (l : List Row) : disc f (r :: l) = disc f l + sumf (fun s => (f s - f r) * (f s - f r)) l := by
  have e : sumf (fun s => (f s - f r) * (f s - f r)) l = sumf (fun s => f s * f s) l + (-2 * f r) * sumf f l + (l.length : Int) * (f r * f r) := by
    rw [← sumf_mul, ← sumf_const, ← sumf_add, ← sumf_add]
    exact sumf_congr fun s _ => by grind
  rw [e, disc, disc, sumf, sumf, List.length_cons]
  push_cast
  grind
theorem sq_nonneg (x : Int) : 0 ≤ x * x := by
  rcases Int.le_total 0 x with h | h
  · exact Int.mul_nonneg h h
  · exact Int.mul_nonneg_of_nonpos_of_nonpos h h
theorem disc_nonneg (f : Row → Int) (l : List Row) : 0 ≤ disc f l := by
  induction l with
  | nil => simp [disc, sumf]
  | cons r l ih =>
    have := sumf_nonneg (f := fun s => (f s - f r) * (f s - f r)) (l := l) fun s _ => sq_nonneg _
    rw [disc_cons]; omega
theorem sumf_zero {f : Row → Int} {l : List Row} (h : ∀ r ∈ l, 0 ≤ f r) (h0 : sumf f l = 0) : ∀ r ∈ l, f r = 0 := by
  induction l with
  | nil => intro r hr; cases hr
  | cons x l ih =>
    have h1 := h x List.mem_cons_self
    have h2 := sumf_nonneg fun s hs => h s (List.mem_cons_of_mem _ hs)
    simp only [sumf] at h0
    intro r hr
    rcases List.mem_cons.1 hr with rfl | hr
    · omega
    · exact ih (fun s hs => h s (List.mem_cons_of_mem _ hs)) (by omega) r hr
theorem disc_zero {f : Row → Int} {l : List Row} (h : disc f l = 0) : ∀ r ∈ l, ∀ s ∈ l, f r = f s := by
  induction l with
  | nil => intro r hr; cases hr
  | cons x l ih =>
    have h1 := disc_nonneg f l
    have h2 := sumf_nonneg (f := fun s => (f s - f x) * (f s - f x)) (l := l) fun s _ => sq_nonneg _
    rw [disc_cons] at h
    have h3 := sumf_zero (f := fun s => (f s - f x) * (f s - f x)) (l := l) (fun s _ => sq_nonneg _) (by omega)
    have h4 : ∀ s ∈ l, f s = f x := fun s hs => by
      have := h3 s hs
      rcases Int.mul_eq_zero.1 this with h | h <;> omega
    have h5 : ∀ s ∈ x :: l, f s = f x := fun s hs => (List.mem_cons.1 hs).elim (fun e => e ▸ rfl) (h4 s)
    intro r hr s hs
    rw [h5 r hr, h5 s hs]
theorem disc_same {f : Row → Int} {l : List Row} (k : Int) (h : ∀ r ∈ l, f r = k) : disc f l = 0 := by
  have e1 : sumf f l = (l.length : Int) * k := by rw [← sumf_const]; exact sumf_congr h
  have e2 : sumf (fun r => f r * f r) l = (l.length : Int) * (k * k) := by rw [← sumf_const]; exact sumf_congr fun r hr => by rw [h r hr]
  rw [disc, e1, e2]; grind
theorem disc_perm (f : Row → Int) {l l' : List Row} (h : l.Perm l') : disc f l = disc f l' := by rw [disc, disc, sumf_perm _ h, sumf_perm _ h, h.length_eq]

/-! ### Fractions in lowest terms -/
theorem gcd_step (a b : Int) : Int.gcd b (a.tmod b) = Int.gcd a b := by
  rw [Int.gcd, Int.gcd, Int.natAbs_tmod, Nat.gcd_comm b.natAbs, ← Nat.gcd_rec, Nat.gcd_comm]
/-- A fraction is what two numbers come to, divided by their greatest common divisor. -/
structure Lowest (num den : Int) (p q : Int) : Prop where
  pos : 0 < q
  num_ : p * (Int.gcd num den : Int) = num
  den_ : q * (Int.gcd num den : Int) = den
  one : Int.gcd p q = 1
theorem lowest_of {num den : Int} (hd : 0 < den) : Lowest num den (num.tdiv (Int.gcd num den : Int)) (den.tdiv (Int.gcd num den : Int)) := by
  have hg : 0 < Int.gcd num den := Int.gcd_pos_of_ne_zero_right _ (by omega)
  have d1 : (Int.gcd num den : Int) ∣ num := Int.gcd_dvd_left ..
  have d2 : (Int.gcd num den : Int) ∣ den := Int.gcd_dvd_right ..
  have e1 := Int.tdiv_mul_cancel d1
  have e2 := Int.tdiv_mul_cancel d2
  refine ⟨?_, e1, e2, ?_⟩
  · rcases Int.lt_trichotomy 0 (den.tdiv (Int.gcd num den : Int)) with h | h | h
    · exact h
    · rw [← h] at e2; simp at e2; omega
    · have : den.tdiv (Int.gcd num den : Int) * (Int.gcd num den : Int) < 0 := Int.mul_neg_of_neg_of_pos h (by omega)
      omega
  · have h1 : (num.tdiv (Int.gcd num den : Int)).natAbs = num.natAbs / Nat.gcd num.natAbs den.natAbs := by rw [Int.natAbs_tdiv]; rfl
    have h2 : (den.tdiv (Int.gcd num den : Int)).natAbs = den.natAbs / Nat.gcd num.natAbs den.natAbs := by rw [Int.natAbs_tdiv]; rfl
    rw [Int.gcd, h1, h2]
    exact Nat.coprime_div_gcd_div_gcd hg

/-! ### The line of least squares -/
theorem line_sum {n x y xx xy sN sD tN tD : Int} (hd : 0 < n * xx - x * x) (hs : Lowest (n * xy - x * y) (n * xx - x * x) sN sD) (ht : Lowest (y * xx - x * xy) (n * xx - x * x) tN tD) :
    y * (sD * tD) - sN * tD * x - tN * sD * n = 0 ∧ xy * (sD * tD) - sN * tD * xx - tN * sD * x = 0 := by
  obtain ⟨_, h1, h2, _⟩ := hs
  obtain ⟨_, h3, h4, _⟩ := ht
  generalize (Int.gcd (n * xy - x * y) (n * xx - x * x) : Int) = g at *
  generalize (Int.gcd (y * xx - x * xy) (n * xx - x * x) : Int) = k at *
  have hg : g ≠ 0 := fun e => by rw [e] at h2; simp at h2; omega
  have hk : k ≠ 0 := fun e => by rw [e] at h4; simp at h4; omega
  have e1 : (y * (sD * tD) - sN * tD * x - tN * sD * n) * (g * k) = 0 := by grind
  have e2 : (xy * (sD * tD) - sN * tD * xx - tN * sD * x) * (g * k) = 0 := by grind
  have hgk : g * k ≠ 0 := Int.mul_ne_zero hg hk
  exact ⟨(Int.mul_eq_zero.1 e1).resolve_right hgk, (Int.mul_eq_zero.1 e2).resolve_right hgk⟩
end Go.Proofs.YtgabidgpngiecaaGreatPlain
