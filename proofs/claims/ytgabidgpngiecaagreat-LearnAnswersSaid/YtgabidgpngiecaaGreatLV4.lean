/- Plain facts and contracts for LearnVotes. Conditions: each names its own. -/
import Derived.Test.YtgabidgpngiecaaGreatLV2
import Derived.Test.YtgabidgpngiecaaGreatLR0
import Derived.Test.YtgabidgpngiecaaGreatLB1
import Derived.Test.YtgabidgpngiecaaGreatLC0
namespace Go.Proofs.YtgabidgpngiecaaGreat
open Go.RowKit Go.Proofs.YtgabidgpngiecaaGreatKit Go.Proofs.YtgabidgpngiecaaGreatPlain Go.Sort

theorem insR_perm (r : Row) : ∀ l : List Row, (insR r l).Perm (r :: l)
  | [] => List.Perm.refl _
  | x :: l => by
    rw [insR]
    split
    · exact List.Perm.refl _
    · exact ((insR_perm r l).cons x).trans (List.Perm.swap r x l)
theorem sort_perm : ∀ (l acc : List Row), (∀ r ∈ l, okRow r) → acc.length + l.length ≤ 500 → (l.foldl learnL acc).Perm (acc ++ l)
  | [], acc, _, _ => by simp
  | r :: l, acc, hok, hn => by
    rw [List.length_cons] at hn
    have e : learnL acc r = insR r acc := by
      unfold learnL
      rw [if_pos (hok r List.mem_cons_self), if_neg (by omega)]
    rw [List.foldl_cons, e]
    refine (sort_perm l (insR r acc) (fun s hs => hok s (List.mem_cons_of_mem _ hs)) (by rw [insR_length]; omega)).trans ?_
    refine ((insR_perm r acc).append_right l).trans ?_
    exact List.perm_middle.symm
theorem sortL_perm {l : List Row} (hok : ∀ r ∈ l, okRow r) (hn : l.length ≤ 500) : (sortL l).Perm l := by
  have := sort_perm l [] hok (by simpa using hn)
  rw [List.nil_append] at this
  exact this
/-- The rows, nearest first. -/
def NearL (x : Row) (l N : List Row) : Prop := N.Perm l ∧ N.Pairwise (fun p q => ¬ nearer x q p)
theorem near_tri {x r s : Row} (h1 : ¬ nearer x r s) (h2 : ¬ nearer x s r) : r = s := by
  unfold nearer at h1 h2
  have e : farF r x = farF s x := by omega
  exact lex_tri (fun h => h1 (.inr ⟨e, h⟩)) (fun h => h2 (.inr ⟨e.symm, h⟩))
theorem near_one {x : Row} {l N N' : List Row} (h : NearL x l N) (h' : NearL x l N') : N = N' :=
  List.Perm.eq_of_pairwise (le := fun p q => ¬ nearer x q p) (fun _ _ _ _ h1 h2 => near_tri h2 h1) h.2 h'.2 (h.1.trans h'.1.symm)
theorem NearL.take {x : Row} {l N : List Row} (h : NearL x l N) (n : Nat) : NearL x (N.take n) (N.take n) := ⟨List.Perm.refl _, h.2.sublist (List.take_sublist _ _)⟩
theorem near_canon {x : Row} {l : List Row} {L : List (Row × Nat)} (hc : Canon L) (hp : (expand L).Perm l) : NearL x l (expand (stab (ltOf (farC x)) L)) := by
  refine ⟨(List.Perm.flatMap_right _ (stab_perm L)).trans hp, ?_⟩
  have h1 := stab_stable (swoFar x) (R := fun p q : Row × Nat => ¬ lexLt q.1 p.1) hc.sorted
  have h2 := stab_srt (swoFar x) L
  have h3 : (stab (ltOf (farC x)) L).Pairwise fun p q => ¬ nearer x q.1 p.1 := by
    have h12 := h1.and h2
    refine h12.imp ?_
    rintro p q ⟨hr, hs⟩
    rw [ltFar] at hs
    have hs := of_decide_eq_false hs
    unfold nearer
    rintro (h | ⟨h, h'⟩)
    · exact hs h
    · rcases hr with hr | ⟨_, hr⟩
      · rw [ltFar] at hr
        have := of_decide_eq_true hr
        omega
      · exact hr h'
  unfold expand
  rw [List.pairwise_flatMap]
  refine ⟨fun p _ => ?_, h3.imp ?_⟩
  · rw [List.pairwise_replicate]
    exact .inr (nearer_irrefl x _)
  · intro p q h a ha b hb
    rw [(List.mem_replicate.1 ha).2, (List.mem_replicate.1 hb).2]
    exact h
theorem vote_near {x : Row} {l N : List Row} {L : List (Row × Nat)} (hc : Canon L) (hp : (expand L).Perm l) (hN : NearL x l N) (k : Nat) : voteF x L k = bestOf (N.take k) := by
  unfold voteF
  rw [near_one (near_canon hc hp) hN]
/-- As many of the nearest rows vote the same. -/
theorem vote_few {x : Row} {l N : List Row} {L L2 : List (Row × Nat)} (hc : Canon L) (hp : (expand L).Perm l) (hN : NearL x l N) (k : Nat) (hc2 : Canon L2) (hp2 : (expand L2).Perm (N.take k)) : voteF x L k = voteF x L2 k := by
  rw [vote_near hc hp hN, vote_near hc2 hp2 (hN.take k), List.take_take, Nat.min_self]
theorem vote_one {x : Row} {l N : List Row} {L : List (Row × Nat)} (hc : Canon L) (hp : (expand L).Perm l) (hN : NearL x l N) (h0 : 0 < N.length) : voteF x L 1 = N[0].l := by
  rw [vote_near hc hp hN]
  obtain ⟨r, N, rfl⟩ : ∃ r M, N = r :: M := by
    cases N with
    | nil => simp at h0
    | cons r M => exact ⟨r, M, rfl⟩
  simp [bestOf, firsts, bestStep]
end Go.Proofs.YtgabidgpngiecaaGreat

namespace Go.Proofs.YtgabidgpngiecaaGreat
open Go.RowKit Go.Proofs.YtgabidgpngiecaaGreatKit Go.Proofs.YtgabidgpngiecaaGreatPlain Go.Sort

set_option maxHeartbeats 1000000 in
set_option maxRecDepth 100000 in
theorem vote_none {base : Nat} {w : World} {mb b : Nat} (x : Row) (k : Int) (h : Mdl base w mb b []) (hx : okPt x) (hk1 : 1 ≤ k) :
    Calls Tryz.prog 14 #[.pointer (some ⟨mb, 0, none⟩), ptV x, .int .i64 k] w fun e w' => e = .returned (.tuple #[.int .i64 0, .int .i64 3]) ∧ Keep No w w' := by
  have B0 := Blk.new w 28 #[.int .i64 x.a, .int .i64 x.b, .int .i64 x.c]
  have K0 := Lib.hid ((Keep.refl No w).alloc (.cells #[.int .i64 x.a, .int .i64 x.b, .int .i64 x.c] 28))
  have HI := Lib.hid (fun W => inside_any x.a x.b x.c W)
  rw [decide_eq_true (show okX x.a ∧ okX x.b ∧ okX x.c from hx)] at HI
  have HM := Lib.hid (fun W (hW : Keep No w W) => sorted_any (h.new_ hW))
  have f0 := B0.cell 0
  have f1 := B0.cell 1
  have f2 := B0.cell 2
  simp only [List.getElem?_toArray, List.getElem?_cons_zero, List.getElem?_cons_succ] at f0 f1 f2
  clear h B0 hx
  have hkk : decide (k < 1) = false := decide_eq_false (by omega)
  unfold ptV
  go_enter Tryz.func14, Tryz.ntmps14
  go_wp2_with fail
  generalize w.alloc (.cells #[.int .i64 x.a, .int .i64 x.b, .int .i64 x.c] 28) = w0 at *
  refine (HI.out w0).mono ?_
  rintro e w1 ⟨rfl, k1⟩
  have K1 := Lib.hid (K0.out.trans k1 (fun _ x => x.elim))
  clear k1 f0 f1 f2 HI K0
  go_wp2_with fail
  refine (HM.out _ K1.out).mono ?_
  rintro e w2 ⟨v, L, rfl, hC, _, hp, _, hok, hk2⟩
  have hL : L = [] := by
    rcases L with _ | ⟨p, L⟩
    · rfl
    · have h1 := hp.length_eq
      have h2 := (hok p List.mem_cons_self).1
      simp [expand] at h1
      omega
  subst hL
  obtain ⟨A, c, rfl, _⟩ := own_shape hC
  have K2 := Lib.hid (K1.out.trans hk2 (fun _ x => x.elim))
  clear hC hp hok hk2 HM
  go_wp2_with fail
  go_ret2
  exact ⟨rfl, K2.out⟩

/-- What LearnVotes holds: a model of the rows, the rows, and the point. -/
structure VW (w W : World) (v : Value) (R : List Row) (x : Row) : Prop where
  md : Mdl (w.heap.size + 1) W (w.heap.size + 1 + 1) (w.heap.size + 1) R
  ro : ROwn (w.heap.size + 1) W v R
  bx : Blk W w.heap.size 28 #[.int .i64 x.a, .int .i64 x.b, .int .i64 x.c]
  kp : Keep No w W
section
variable {w W W' : World} {v : Value} {R : List Row} {x x' : Row}
theorem VW.new_ (h : VW w W v R x) (hk : Keep No W W') : VW w W' v R x := ⟨h.md.new_ hk, h.ro.keep hk (fun _ _ x => x), h.bx.keep hk (fun x => x), h.kp.trans hk (fun _ x => x.elim)⟩
theorem VW.set (h : VW w W v R x) (hk : Keep (fun k => k = w.heap.size) W W') (hb : Blk W' w.heap.size 28 #[.int .i64 x'.a, .int .i64 x'.b, .int .i64 x'.c]) : VW w W' v R x' :=
  ⟨h.md.keep hk (fun e => by omega) (fun e => by omega), h.ro.keep hk (fun k e hs => by have := (h.ro.lt k e).1; omega), hb, h.kp.trans hk (fun k e => .inr (by omega))⟩
theorem VW.cells (h : VW w W v R x) : W.cell? ⟨w.heap.size, 0, none⟩ = some (.int .i64 x.a) ∧ W.cell? ⟨w.heap.size, 1, none⟩ = some (.int .i64 x.b) ∧ W.cell? ⟨w.heap.size, 2, none⟩ = some (.int .i64 x.c) := ⟨h.bx.cell 0, h.bx.cell 1, h.bx.cell 2⟩
end
/-- The first k numbers of a point brought within. -/
def mods (k : Nat) (x : Row) : Row := ⟨if 0 < k then x.a.tmod 1001 else x.a, if 1 < k then x.b.tmod 1001 else x.b, if 2 < k then x.c.tmod 1001 else x.c, x.l⟩
theorem okX_tmod (n : Int) : okX (n.tmod 1001) := by
  unfold okX
  have h1 := Int.lt_tmod_of_pos n (b := 1001) (by decide)
  have h2 := Int.tmod_lt_of_pos n (b := 1001) (by decide)
  omega
theorem mods_ok (x : Row) : okPt (mods 3 x) := ⟨okX_tmod _, okX_tmod _, okX_tmod _⟩
theorem BI.vw {w W : World} {v : Value} {R : List Row} {x : Row} (h : BI (w.alloc (.cells #[.int .i64 x.a, .int .i64 x.b, .int .i64 x.c] 28)) W ((w.alloc (.cells #[.int .i64 x.a, .int .i64 x.b, .int .i64 x.c] 28)).heap.size + 1) (w.alloc (.cells #[.int .i64 x.a, .int .i64 x.b, .int .i64 x.c] 28)).heap.size v R) : VW w W v R (mods 0 x) := by
  have e : (w.alloc (.cells #[.int .i64 x.a, .int .i64 x.b, .int .i64 x.c] 28)).heap.size = w.heap.size + 1 := by simp
  refine ⟨e ▸ h.md, e ▸ h.ro, (Blk.new w _ _).keep h.kp (fun x => x), ((Keep.refl No w).alloc _).trans h.kp (fun _ x => x.elim)⟩
theorem VW.step0 {w W : World} {v : Value} {R : List Row} {x : Row} (h : VW w W v R (mods 0 x)) : VW w (W.setCell ⟨w.heap.size, 0, none⟩ (.int .i64 (x.a.tmod 1001))) v R (mods 1 x) :=
  h.set ((Keep.refl (fun k => k = w.heap.size) W).setCell (p := ⟨w.heap.size, 0, none⟩) (.inl rfl) _) (h.bx.set_ 0 _)
theorem VW.step1 {w W : World} {v : Value} {R : List Row} {x : Row} (h : VW w W v R (mods 1 x)) : VW w (W.setCell ⟨w.heap.size, 1, none⟩ (.int .i64 (x.b.tmod 1001))) v R (mods 2 x) :=
  h.set ((Keep.refl (fun k => k = w.heap.size) W).setCell (p := ⟨w.heap.size, 1, none⟩) (.inl rfl) _) (h.bx.set_ 1 _)
theorem VW.step2 {w W : World} {v : Value} {R : List Row} {x : Row} (h : VW w W v R (mods 2 x)) : VW w (W.setCell ⟨w.heap.size, 2, none⟩ (.int .i64 (x.c.tmod 1001))) v R (mods 3 x) :=
  h.set ((Keep.refl (fun k => k = w.heap.size) W).setCell (p := ⟨w.heap.size, 2, none⟩) (.inl rfl) _) (h.bx.set_ 2 _)
end Go.Proofs.YtgabidgpngiecaaGreat
