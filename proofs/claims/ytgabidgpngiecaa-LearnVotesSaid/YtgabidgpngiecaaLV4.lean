/- Plain facts: the votes are those of the nearest rows. Conditions: each names its own. -/
import Derived.Test.YtgabidgpngiecaaLV3
import Derived.Test.YtgabidgpngiecaaLR2
namespace Go.Proofs.Ytgabidgpngiecaa
open Go.RowKit Go.Proofs.YtgabidgpngiecaaKit Go.Proofs.YtgabidgpngiecaaPlain Go.Sort

theorem insR_perm (r : Row) : ∀ l : List Row, (insR r l).Perm (r :: l)
  | [] => List.Perm.refl _
  | x :: l => by
    rw [insR]
    split
    · exact List.Perm.refl _
    · exact ((insR_perm r l).cons x).trans (List.Perm.swap r x l)
theorem sort_perm : ∀ (l acc : List Row), (∀ r ∈ l, okRow r) → acc.length + l.length ≤ 500 → (l.foldl learnL acc).Perm (acc ++ l)
  | [], acc, _, _ => by simp
  | r :: l, acc, hok, hn => by
    rw [List.length_cons] at hn
    have e : learnL acc r = insR r acc := by
      unfold learnL
      rw [if_pos (hok r List.mem_cons_self), if_neg (by omega)]
    rw [List.foldl_cons, e]
    refine (sort_perm l (insR r acc) (fun s hs => hok s (List.mem_cons_of_mem _ hs)) (by rw [insR_length]; omega)).trans ?_
    refine ((insR_perm r acc).append_right l).trans ?_
    exact List.perm_middle.symm
theorem sortL_perm {l : List Row} (hok : ∀ r ∈ l, okRow r) (hn : l.length ≤ 500) : (sortL l).Perm l := by
  have := sort_perm l [] hok (by simpa using hn)
  rw [List.nil_append] at this
  exact this
/-- The rows, nearest first. -/
def NearL (x : Row) (l N : List Row) : Prop := N.Perm l ∧ N.Pairwise (fun p q => ¬ nearer x q p)
theorem near_tri {x r s : Row} (h1 : ¬ nearer x r s) (h2 : ¬ nearer x s r) : r = s := by
  unfold nearer at h1 h2
  have e : farF r x = farF s x := by omega
  exact lex_tri (fun h => h1 (.inr ⟨e, h⟩)) (fun h => h2 (.inr ⟨e.symm, h⟩))
theorem near_one {x : Row} {l N N' : List Row} (h : NearL x l N) (h' : NearL x l N') : N = N' :=
  List.Perm.eq_of_pairwise (le := fun p q => ¬ nearer x q p) (fun _ _ _ _ h1 h2 => near_tri h2 h1) h.2 h'.2 (h.1.trans h'.1.symm)
theorem NearL.take {x : Row} {l N : List Row} (h : NearL x l N) (n : Nat) : NearL x (N.take n) (N.take n) := ⟨List.Perm.refl _, h.2.sublist (List.take_sublist _ _)⟩
theorem near_canon {x : Row} {l : List Row} {L : List (Row × Nat)} (hc : Canon L) (hp : (expand L).Perm l) : NearL x l (expand (stab (ltOf (farC x)) L)) := by
  refine ⟨(List.Perm.flatMap_right _ (stab_perm L)).trans hp, ?_⟩
  have h1 := stab_stable (swoFar x) (R := fun p q : Row × Nat => ¬ lexLt q.1 p.1) hc.sorted
  have h2 := stab_srt (swoFar x) L
  have h3 : (stab (ltOf (farC x)) L).Pairwise fun p q => ¬ nearer x q.1 p.1 := by
    have h12 := h1.and h2
    refine h12.imp ?_
    rintro p q ⟨hr, hs⟩
    rw [ltFar] at hs
    have hs := of_decide_eq_false hs
    unfold nearer
    rintro (h | ⟨h, h'⟩)
    · exact hs h
    · rcases hr with hr | ⟨_, hr⟩
      · rw [ltFar] at hr
        have := of_decide_eq_true hr
        omega
      · exact hr h'
  unfold expand
  rw [List.pairwise_flatMap]
  refine ⟨fun p _ => ?_, h3.imp ?_⟩
  · rw [List.pairwise_replicate]
    exact .inr (nearer_irrefl x _)
  · intro p q h a ha b hb
    rw [(List.mem_replicate.1 ha).2, (List.mem_replicate.1 hb).2]
    exact h
theorem vote_near {x : Row} {l N : List Row} {L : List (Row × Nat)} (hc : Canon L) (hp : (expand L).Perm l) (hN : NearL x l N) (k : Nat) : voteF x L k = bestOf (N.take k) := by
  unfold voteF
  rw [near_one (near_canon hc hp) hN]
/-- As many of the nearest rows vote the same. -/
theorem vote_few {x : Row} {l N : List Row} {L L2 : List (Row × Nat)} (hc : Canon L) (hp : (expand L).Perm l) (hN : NearL x l N) (k : Nat) (hc2 : Canon L2) (hp2 : (expand L2).Perm (N.take k)) : voteF x L k = voteF x L2 k := by
  rw [vote_near hc hp hN, vote_near hc2 hp2 (hN.take k), List.take_take, Nat.min_self]
theorem vote_one {x : Row} {l N : List Row} {L : List (Row × Nat)} (hc : Canon L) (hp : (expand L).Perm l) (hN : NearL x l N) (h0 : 0 < N.length) : voteF x L 1 = N[0].l := by
  rw [vote_near hc hp hN]
  obtain ⟨r, N, rfl⟩ : ∃ r M, N = r :: M := by
    cases N with
    | nil => simp at h0
    | cons r M => exact ⟨r, M, rfl⟩
  simp [bestOf, firsts, bestStep]
end Go.Proofs.Ytgabidgpngiecaa
