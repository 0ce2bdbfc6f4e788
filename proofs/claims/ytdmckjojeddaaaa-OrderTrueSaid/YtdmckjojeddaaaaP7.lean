/- What the laws' rising hands out; the nodes' pairs (no memory). -/
import Derived.Test.YtdmckjojeddaaaaP6
import Derived.Test.YtdmckjojeddaaaaT9
namespace Go.Proofs.Ytdmckjojeddaaaa
open Go.Proofs.YtdmckjojeddaaaaPlain

theorem risingGo_some {l acc out : PairL} (h : risingGo l acc = some out) : out = putAll acc l ∧ ∀ p ∈ l, keyOk p.1 p.2 := by
  induction l generalizing acc with
  | nil => rw [risingGo] at h; injection h with h; subst h; exact ⟨rfl, fun p hp => by cases hp⟩
  | cons p l ih =>
    rw [risingGo] at h
    split at h
    · rename_i ha
      obtain ⟨h1, h2⟩ := ih h
      exact ⟨h1, fun q hq => (List.mem_cons.1 hq).elim (fun e => e ▸ keyOk_of ha) (h2 q)⟩
    · cases h
theorem risingL_some {l out : PairL} (h : risingL l = some out) : l.length ≤ 400 ∧ out = putAll [] l ∧ Okay l := by
  unfold risingL at h
  split at h
  · cases h
  · obtain ⟨h1, h2⟩ := risingGo_some h
    exact ⟨by omega, h1, h2⟩
theorem nodes_mem {seed : Int} {t : PT} {i : Nat} {x : NodeV} (h : x ∈ t.nodes seed i) (P : List UInt8 × List UInt8 → Prop) : ∀ {u : AT}, u.shape = t → (∀ p ∈ u.toList, P p) → P (x.key, x.value) := by
  induction t generalizing i with
  | nil => cases h
  | node k v l r ihl ihr =>
    intro u hu hP
    cases u with
    | nil => cases hu
    | node b k' v' l' r' =>
      simp only [AT.shape] at hu
      injection hu with h1 h2 h3 h4
      subst h1 h2 h3 h4
      rw [PT.nodes] at h
      rcases List.mem_cons.1 h with rfl | h
      · exact hP (k', v') (by simp [AT.toList])
      · rcases List.mem_append.1 h with h | h
        · exact ihl h rfl (fun p hp => hP p (by simp [AT.toList, hp]))
        · exact ihr h rfl (fun p hp => hP p (by simp [AT.toList, hp]))
theorem nodesL_mem {seed : Int} {t : AT} (h : WF seed t) (P : List UInt8 × List UInt8 → Prop) (hP : ∀ p ∈ t.toList, P p) : ∀ x ∈ nodesL seed t.toList, P (x.key, x.value) := fun x hx => by
  rw [nodesL, ← shape_build h] at hx
  exact nodes_mem hx P rfl hP
theorem ChildOk.nonneg {L : List NodeV} {seed : Int} {n : Nat} {k : List UInt8} {c : Int} {s : Nat} {d : Int} {P : List UInt8 → Prop} (h : ChildOk L seed n k c s d P) (hL : ∀ j x, L[j]? = some x → NodeOk L seed j x) : 0 ≤ d := by
  rcases h with ⟨_, _, rfl⟩ | ⟨m, y, _, _, hy, _, rfl, _⟩
  · exact Int.le_refl _
  · obtain ⟨_, _, ld, rd, _, h2, _⟩ := hL m y hy
    rw [h2]; exact mark_nonneg _ _ _ _ _
theorem nodes_small {seed : Int} {t : PT} {i : Nat} {x : NodeV} (h : x ∈ t.nodes seed i) : x.size ≤ t.size := by
  induction t generalizing i with
  | nil => cases h
  | node k v l r ihl ihr =>
    rw [PT.nodes] at h
    simp only [PT.size]
    rcases List.mem_cons.1 h with rfl | h
    · exact Nat.le_refl _
    · rcases List.mem_append.1 h with h | h
      · have := ihl h; omega
      · have := ihr h; omega
theorem nodesL_small {seed : Int} {l : PairL} : ∀ x ∈ nodesL seed l, x.size ≤ l.length := fun x hx => by
  have := nodes_small hx
  rwa [build_size] at this
end Go.Proofs.Ytdmckjojeddaaaa
