/- Steps that are handed over: either they show what the map has, or they meet a node of it that is another one (no memory). -/
import Derived.Test.YtdmckjojeddaaaaP8
namespace Go.Proofs.Ytdmckjojeddaaaa
open Go.Proofs.YtdmckjojeddaaaaKit Go.Proofs.YtdmckjojeddaaaaPlain

def PT.met (seed : Int) (key : List UInt8) : PT → List Side → Bool
  | .nil, [] => false
  | .node _ _ _ _, [] => true
  | .nil, _ :: _ => true
  | .node k v l r, s :: rest => if k = s.key ∧ v = s.value ∧ l.sum seed = s.left ∧ r.sum seed = s.right then (if key = k then false else PT.met seed key (if Lt key k then l else r) rest) else true
theorem chk_allowed {seed : Int} {key : List UInt8} {d : Int} {l : List Side} {o : Option (List UInt8)} (h : chk seed key d l = some o) : ∀ s ∈ l, allowedB s.key s.value = true := by
  induction l generalizing d with
  | nil => intro s hs; cases hs
  | cons s r ih =>
    rw [chk] at h
    split at h
    · cases h
    · rename_i hc
      have h0 : allowedB s.key s.value = true := by
        cases hb : allowedB s.key s.value with
        | true => rfl
        | false => exact absurd (.inl hb) hc
      intro x hx
      rcases List.mem_cons.1 hx with rfl | hx
      · exact h0
      · split at h
        · split at h
          · rename_i hr
            rw [hr] at hx; cases hx
          · cases h
        · exact ih h x hx
theorem met_true {seed : Int} {key : List UInt8} {t : AT} {l : List Side} {o : Option (List UInt8)} (h : chk seed key (t.sum seed) l = some o) : o = (t.find key).val ∨ t.shape.met seed key l = true := by
  induction l generalizing t with
  | nil =>
    cases t with
    | nil => rw [chk] at h; simp [AT.sum] at h; subst h; exact .inl rfl
    | node b k v lt rt => exact .inr rfl
  | cons s r ih =>
    cases t with
    | nil => exact .inr rfl
    | node b k v lt rt =>
      simp only [AT.shape, PT.met]
      split
      · rename_i hc
        obtain ⟨h1, h2, h3, h4⟩ := hc
        subst h1 h2
        rw [shape_sum] at h3 h4
        rw [chk] at h
        split at h
        · cases h
        · rw [AT.find]
          split at h
          · rename_i hk
            rw [if_pos hk]
            split at h
            · injection h with h; subst h; exact .inl rfl
            · cases h
          · rename_i hk
            rw [if_neg hk, if_neg hk]
            split
            · rename_i hlt
              rw [if_pos hlt, ← h3] at h
              exact ih h
            · rename_i hlt
              rw [if_neg hlt, ← h4] at h
              exact ih h
      · exact .inr rfl
/-- What met reports of the nodes of some pairs. -/
def metL (seed : Int) (l : PairL) (key : List UInt8) (steps : List Side) : Bool := (build seed l).met seed key steps
theorem metL_true {seed : Int} {key : List UInt8} {t : AT} (hwf : WF seed t) {steps : List Side} {o : Option (List UInt8)} (h : chk seed key (digest seed t.toList) steps = some o) : o = getL t.toList key ∨ metL seed t.toList key steps = true := by
  rw [← digest_eq hwf] at h
  rw [getL_find hwf.sorted, metL, ← shape_build hwf]
  exact met_true h
theorem met_at {seed : Int} {key : List UInt8} {k v : List UInt8} {a b : PT} {l : List Side} {j : Nat} (hj : j < l.length) : (PT.node k v a b).met seed key (l.drop j) =
    if k = l[j].key ∧ v = l[j].value ∧ a.sum seed = l[j].left ∧ b.sum seed = l[j].right then (if key = k then false else PT.met seed key (if Lt key k then a else b) (l.drop (j + 1))) else true := by
  rw [List.drop_eq_getElem_cons hj, PT.met]
theorem met_nil_at {seed : Int} {key : List UInt8} {l : List Side} {j : Nat} (hj : j < l.length) : PT.nil.met seed key (l.drop j) = true := by rw [List.drop_eq_getElem_cons hj]; rfl
end Go.Proofs.Ytdmckjojeddaaaa
