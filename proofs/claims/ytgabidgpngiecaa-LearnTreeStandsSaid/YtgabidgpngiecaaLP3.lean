/- Plain facts on what the law LearnSquares adds up. Conditions: none. -/
import Derived.Test.YtgabidgpngiecaaLP2
namespace Go.Proofs.YtgabidgpngiecaaPlain

theorem goSum_eq (p : Int) (f : Row → Int) : ∀ l : List Row, goSum p f l = sumf f l % p
  | [] => by simp [goSum, sumf]
  | r :: l => by rw [goSum, goSum_eq p f l, sumf, Int.emod_add_emod, Int.add_comm]
/-- The same, from the front. -/
def goS (p : Int) (f : Row → Int) (l : List Row) : Int := sumf f l % p
theorem goS_nil (p : Int) (f : Row → Int) : goS p f [] = 0 := by simp [goS, sumf]
theorem goS_push (p : Int) (f : Row → Int) (l : List Row) (r : Row) : (goS p f l + f r) % p = goS p f (l ++ [r]) := by
  unfold goS
  rw [sumf_append, Int.emod_add_emod]
  simp [sumf]
theorem goS_bound {p : Int} (hp : 0 < p) (f : Row → Int) (l : List Row) : 0 ≤ goS p f l ∧ goS p f l < p := ⟨Int.emod_nonneg _ (by omega), Int.emod_lt_of_pos _ hp⟩
theorem diff_bound {p : Int} (hp : 0 < p) (sN sD tN tD x y : Int) : 0 ≤ diff p sN sD tN tD x y ∧ diff p sN sD tN tD x y < p := ⟨Int.emod_nonneg _ (by omega), Int.emod_lt_of_pos _ hp⟩
theorem squares_zero {sN sD tN tD : Int} (p : Int) (i j : Nat) {l : List Row} (hd : 0 < disc (fun r => r.x i) l)
    (hs : Lowest ((l.length : Int) * sumf (fun r => r.x i * r.x j) l - sumf (fun r => r.x i) l * sumf (fun r => r.x j) l) (disc (fun r => r.x i) l) sN sD)
    (ht : Lowest (sumf (fun r => r.x j) l * sumf (fun r => r.x i * r.x i) l - sumf (fun r => r.x i) l * sumf (fun r => r.x i * r.x j) l) (disc (fun r => r.x i) l) tN tD) :
    goS p (fun r => diff p sN sD tN tD (r.x i) (r.x j)) l = 0 ∧ goS p (fun r => diff p sN sD tN tD (r.x i) (r.x j) * (r.x i % p)) l = 0 := by
  unfold disc at *
  obtain ⟨h1, h2⟩ := line_sum hd hs ht
  unfold goS
  rw [sum_diff p sN sD tN tD (fun r => r.x i) (fun r => r.x j) l, sum_prod p sN sD tN tD (fun r => r.x i) (fun r => r.x j) l, h1, h2]
  simp
/-- A row that is another than the first, among the first k. -/
def two (i : Nat) (f0 : Int) (l : List Row) : Bool := l.any fun r => decide (r.x i ≠ f0)
theorem two_push (i : Nat) (f0 : Int) (l : List Row) (r : Row) : two i f0 (l ++ [r]) = (two i f0 l || decide (r.x i ≠ f0)) := by simp [two]
theorem two_zero {i : Nat} {l : List Row} {r0 : Row} (h0 : l[0]? = some r0) (h : disc (fun r => r.x i) l = 0) : two i (r0.x i) l = false := by
  unfold two
  rw [List.any_eq_false]
  intro r hr
  have := disc_zero h r hr r0 (List.mem_of_getElem? h0)
  simp [this]
theorem two_pos {i : Nat} {l : List Row} {r0 : Row} (_h0 : l[0]? = some r0) (h : 0 < disc (fun r => r.x i) l) : two i (r0.x i) l = true := by
  by_cases ht : two i (r0.x i) l = true
  · exact ht
  · exfalso
    have ht' : two i (r0.x i) l = false := by simpa using ht
    unfold two at ht'
    rw [List.any_eq_false] at ht'
    have := disc_same (f := fun r => r.x i) (l := l) (r0.x i) (fun r hr => by have := ht' r hr; simpa using this)
    omega
end Go.Proofs.YtgabidgpngiecaaPlain
