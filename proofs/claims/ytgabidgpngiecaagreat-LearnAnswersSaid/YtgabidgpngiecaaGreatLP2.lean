/- Plain facts on remainders by a prime: the sums of a line's differences. Conditions: none. -/
import Derived.Test.YtgabidgpngiecaaGreatLP1
namespace Go.Proofs.YtgabidgpngiecaaGreatPlain

theorem md_eq {x p : Int} (hp : 0 < p) : (x.tmod p + p).tmod p = x % p := by
  have h1 := Int.tmod_lt_of_pos x hp
  have h2 : -p < x.tmod p := by
    have := Int.tmod_lt_of_pos (-x) hp
    rw [Int.neg_tmod] at this
    omega
  rw [Int.tmod_eq_emod_of_nonneg (by omega), Int.add_emod_right]
  have h3 := Int.mul_tdiv_add_tmod x p
  have h4 : x % p = (p * x.tdiv p + x.tmod p) % p := by rw [h3]
  rw [h4, Int.add_comm, Int.add_mul_emod_self_left]
/-- The difference of a row from a line, by a remainder. -/
def diff (p sN sD tN tD x y : Int) : Int := (y * (sD * tD) - sN * tD * x - tN * sD) % p
theorem diff_go (p sN sD tN tD x y : Int) :
    ((y % p) * ((sD % p) * (tD % p) % p) % p - ((sN % p) * (tD % p) % p * (x % p)) % p - (tN % p) * (sD % p) % p) % p = diff p sN sD tN tD x y := by
  unfold diff
  simp only [Int.sub_emod, Int.mul_emod, Int.emod_emod]
theorem sum_diff (p sN sD tN tD : Int) (fx fy : Row → Int) (l : List Row) :
    sumf (fun r => diff p sN sD tN tD (fx r) (fy r)) l % p = (sumf fy l * (sD * tD) - sN * tD * sumf fx l - tN * sD * (l.length : Int)) % p := by
  induction l with
  | nil => simp [sumf]
  | cons r l ih =>
    rw [sumf, Int.add_emod, ih, diff, Int.emod_emod, ← Int.add_emod]
    congr 1
    simp only [sumf, List.length_cons]
    push_cast
    grind
theorem sum_prod (p sN sD tN tD : Int) (fx fy : Row → Int) (l : List Row) :
    sumf (fun r => diff p sN sD tN tD (fx r) (fy r) * (fx r % p)) l % p = (sumf (fun r => fx r * fy r) l * (sD * tD) - sN * tD * sumf (fun r => fx r * fx r) l - tN * sD * sumf fx l) % p := by
  induction l with
  | nil => simp [sumf]
  | cons r l ih =>
    rw [sumf, Int.add_emod, ih, diff, ← Int.mul_emod, ← Int.add_emod]
    congr 1
    simp only [sumf]
    grind
/-- What the law adds up. -/
def goSum (p : Int) (f : Row → Int) : List Row → Int
  | [] => 0
  | r :: l => (goSum p f l + f r) % p
end Go.Proofs.YtgabidgpngiecaaGreatPlain
