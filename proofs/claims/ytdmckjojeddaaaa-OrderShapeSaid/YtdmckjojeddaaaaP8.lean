/- Proofs of a map's keys: the steps, and what they show (no memory). -/
import Derived.Test.YtdmckjojeddaaaaP6
import Derived.Test.YtdmckjojeddaaaaC6
namespace Go.Proofs.Ytdmckjojeddaaaa
open Go.Proofs.YtdmckjojeddaaaaKit Go.Proofs.YtdmckjojeddaaaaPlain

def PT.prove (seed : Int) (key : List UInt8) : PT → List Side
  | .nil => []
  | .node k v l r => ⟨k, v, l.sum seed, r.sum seed⟩ :: (if key = k then [] else if Lt key k then PT.prove seed key l else PT.prove seed key r)
/-- The proof of a key in the map of some pairs. -/
def proveL (seed : Int) (l : PairL) (key : List UInt8) : List Side := (build seed l).prove seed key
def AT.val : AT → Option (List UInt8)
  | .nil => none
  | .node _ _ v _ _ => some v
theorem getL_find {key : List UInt8} {t : AT} (hs : Sorted t.toList) : getL t.toList key = (t.find key).val := by
  rcases find_has (key := key) hs with ⟨h1, h2⟩ | ⟨b, v, l, r, h1, h2, h3⟩
  · rw [h1, getL, h2]; rfl
  · rw [h1, h3]; rfl
theorem chk_prove {seed : Int} {key : List UInt8} {t : AT} (hok : ∀ p ∈ t.toList, keyOk p.1 p.2) : chk seed key (t.sum seed) (t.shape.prove seed key) = some (t.find key).val := by
  induction t with
  | nil => rfl
  | node b k v l r ihl ihr =>
    have h0 : allowedB k v = true := allowedB_iff.2 (hok (k, v) (by simp [AT.toList]))
    have ih1 := ihl (fun p hp => hok p (by simp [AT.toList, hp]))
    have ih2 := ihr (fun p hp => hok p (by simp [AT.toList, hp]))
    simp only [AT.shape, PT.prove, chk, AT.sum, AT.find]
    rw [shape_sum, shape_sum, if_neg (by simp [h0])]
    by_cases hk : key = k
    · rw [if_pos hk, if_pos hk, if_pos rfl, if_pos hk]; rfl
    · rw [if_neg hk, if_neg hk, if_neg hk]
      by_cases hlt : Lt key k
      · rw [if_pos hlt, if_pos hlt, if_pos hlt]; exact ih1
      · rw [if_neg hlt, if_neg hlt, if_neg hlt]; exact ih2
theorem chk_proveL {seed : Int} {key : List UInt8} {t : AT} (h : WF seed t) (hok : ∀ p ∈ t.toList, keyOk p.1 p.2) : chk seed key (digest seed t.toList) (proveL seed t.toList key) = some (getL t.toList key) := by
  rw [proveL, ← shape_build h, ← digest_eq h, chk_prove hok, getL_find h.sorted]
theorem prove_mem {seed : Int} {key : List UInt8} {t : AT} (P : List UInt8 × List UInt8 → Prop) (hP : ∀ p ∈ t.toList, P p) : ∀ s ∈ t.shape.prove seed key, P (s.key, s.value) ∧ 0 ≤ s.left ∧ 0 ≤ s.right := by
  induction t with
  | nil => intro s hs; cases hs
  | node b k v l r ihl ihr =>
    intro s hs
    simp only [AT.shape, PT.prove] at hs
    rcases List.mem_cons.1 hs with rfl | hs
    · refine ⟨hP (k, v) (by simp [AT.toList]), ?_, ?_⟩
      · show 0 ≤ l.shape.sum seed
        rw [shape_sum]; exact AT.sum_nonneg _ _
      · show 0 ≤ r.shape.sum seed
        rw [shape_sum]; exact AT.sum_nonneg _ _
    · split at hs
      · cases hs
      · split at hs
        · exact ihl (fun p hp => hP p (by simp [AT.toList, hp])) s hs
        · exact ihr (fun p hp => hP p (by simp [AT.toList, hp])) s hs
theorem prove_length (seed : Int) (key : List UInt8) (t : PT) : (t.prove seed key).length ≤ t.size := by
  induction t with
  | nil => exact Nat.le_refl _
  | node k v l r ihl ihr =>
    simp only [PT.prove, PT.size, List.length_cons]
    split
    · simp; omega
    · split <;> omega
theorem proveL_mem {seed : Int} {key : List UInt8} {t : AT} (h : WF seed t) (hok : ∀ p ∈ t.toList, keyOk p.1 p.2) : ∀ s ∈ proveL seed t.toList key, keyOk s.key s.value ∧ 0 ≤ s.left ∧ 0 ≤ s.right := fun s hs => by
  rw [proveL, ← shape_build h] at hs
  exact prove_mem (fun p => keyOk p.1 p.2) hok s hs
theorem proveL_length (seed : Int) (l : PairL) (key : List UInt8) : (proveL seed l key).length ≤ l.length := by
  have := prove_length seed key (build seed l)
  rwa [build_size] at this
end Go.Proofs.Ytdmckjojeddaaaa
