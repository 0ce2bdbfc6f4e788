/- Plain facts: the sorted entries of given rows are one list. Conditions: none. -/
import Derived.Test.YtgabidgpngiecaaGreatL4
namespace Go.Proofs.YtgabidgpngiecaaGreat
open Go.Proofs.YtgabidgpngiecaaGreatPlain

/-- Sorted entries of different rows. -/
structure Canon (L : List (Row × Nat)) : Prop where
  sorted : L.Pairwise (fun p q => ¬ lexLt q.1 p.1)
  rows : L.Pairwise (fun p q => p.1 ≠ q.1)
  pos : ∀ p ∈ L, 0 < p.2
theorem lex_tri {r s : Row} (h1 : ¬ lexLt r s) (h2 : ¬ lexLt s r) : r = s := by
  cases r; cases s
  unfold lexLt at h1 h2
  simp only [Row.mk.injEq] at *
  omega
theorem count_expand {L : List (Row × Nat)} (h : L.Pairwise (fun p q => p.1 ≠ q.1)) {r : Row} {n : Nat} (hm : (r, n) ∈ L) : (expand L).count r = n := by
  induction L with
  | nil => cases hm
  | cons p L ih =>
    rw [List.pairwise_cons] at h
    rw [expand_cons, List.count_append, List.count_replicate]
    rcases List.mem_cons.1 hm with rfl | hm
    · have h0 : (expand L).count r = 0 := by
        rw [List.count_eq_zero]
        intro hr
        obtain ⟨k, hk, _⟩ := mem_expand.1 hr
        exact h.1 _ hk rfl
      rw [h0]
      simp
    · have hne : p.1 ≠ r := h.1 _ hm
      rw [ih h.2 hm, if_neg (by simpa using hne)]
      omega
theorem canon_mem {L L' : List (Row × Nat)} (h : Canon L) (h' : Canon L') (hp : (expand L).Perm (expand L')) : ∀ p ∈ L, p ∈ L' := by
  rintro ⟨r, n⟩ hm
  have hn := h.pos _ hm
  have hr : r ∈ expand L' := hp.mem_iff.1 (mem_expand.2 ⟨n, hm, hn⟩)
  obtain ⟨k, hk, _⟩ := mem_expand.1 hr
  have e1 := count_expand h.rows hm
  have e2 := count_expand h'.rows hk
  rw [hp.count_eq] at e1
  rw [e1] at e2
  rw [e2]
  exact hk
theorem canon_eq : ∀ {L L' : List (Row × Nat)}, Canon L → Canon L' → (∀ p, p ∈ L ↔ p ∈ L') → L = L'
  | [], [], _, _, _ => rfl
  | [], q :: L', _, _, h => by have := (h q).2 (List.mem_cons_self ..); cases this
  | p :: L, [], _, _, h => by have := (h p).1 (List.mem_cons_self ..); cases this
  | p :: L, q :: L', c, c', h => by
    obtain ⟨s1, r1, p1⟩ := c
    obtain ⟨s2, r2, p2⟩ := c'
    rw [List.pairwise_cons] at s1 r1 s2 r2
    have e : p = q := by
      rcases List.mem_cons.1 ((h p).1 (List.mem_cons_self ..)) with e | hp
      · exact e
      · rcases List.mem_cons.1 ((h q).2 (List.mem_cons_self ..)) with e | hq
        · exact e.symm
        · exact absurd (lex_tri (s2.1 p hp) (s1.1 q hq)) (r2.1 p hp).symm
    subst e
    congr 1
    refine canon_eq ⟨s1.2, r1.2, fun x hx => p1 x (List.mem_cons_of_mem _ hx)⟩ ⟨s2.2, r2.2, fun x hx => p2 x (List.mem_cons_of_mem _ hx)⟩ fun x => ⟨fun hx => ?_, fun hx => ?_⟩
    · rcases List.mem_cons.1 ((h x).1 (List.mem_cons_of_mem _ hx)) with e | hx2
      · exact absurd (by rw [e]) (r1.1 x hx).symm
      · exact hx2
    · rcases List.mem_cons.1 ((h x).2 (List.mem_cons_of_mem _ hx)) with e | hx2
      · exact absurd (by rw [e]) (r2.1 x hx).symm
      · exact hx2
/-- One list for the same rows. -/
theorem canon_one {L L' : List (Row × Nat)} (h : Canon L) (h' : Canon L') (hp : (expand L).Perm (expand L')) : L = L' :=
  canon_eq h h' fun p => ⟨canon_mem h h' hp p, canon_mem h' h hp.symm p⟩
end Go.Proofs.YtgabidgpngiecaaGreat
