/- LearnOrders: the given statement, for every input; no condition. -/
import Derived.Test.YtgabidgpngiecaaLX0
import Derived.Test.YtgabidgpngiecaaRows
import Derived.Test.YtgabidgpngiecaaLO0
import Derived.ProofKit
import Derived.OpenShut
import Derived.ChangeOld
import Derived.SizedLaws
namespace Go.Proofs.YtgabidgpngiecaaOpen
open Go.RowKit Go.Proofs.YtgabidgpngiecaaKit Go.Proofs.YtgabidgpngiecaaPlain Go.Proofs.Ytgabidgpngiecaa Go.ChangeShapes Go.WideShapes Go.ChangeAt Go.Deep
section
variable {H : Type} {enc : TypeId × Value → H} {w : World} {base : Nat} {spare : Nat → Bool} {held : Bool}
theorem cells_u16 : Try.prog.cellsOf 45 = 1 := by kernel_rfl
theorem flat_picks {l : List Nat} : ∀ {xs : List Value}, Flat (fun (n : Nat) cs => cs = [.int .u16 (n : Nat)] ∧ n < 65536) 1 l xs → xs = pcells l ∧ ∀ n ∈ l, n < 65536 := by
  induction l with
  | nil => intro xs h; exact ⟨h, fun q hq => by cases hq⟩
  | cons r l ih =>
    rintro xs ⟨cs, ys, rfl, _, hr, ht⟩
    obtain ⟨e, he⟩ := ih ht
    obtain ⟨hr', hk⟩ : cs = [.int .u16 (r : Nat)] ∧ r < 65536 := hr
    refine ⟨?_, fun q hq => ?_⟩
    · rw [e, hr']
      rfl
    · rcases List.mem_cons.1 hq with rfl | hq
      · exact hk
      · exact he q hq
theorem picks_open {fuel : Nat} {v : Value} {x : DataW H × List MemPlace} (h : DataW.trod enc Try.prog w base spare held fuel 61 [v] = some x) : ∃ A c l, v = .slice A l.length c ∧ Reads w.heap.size w 45 1 A l.length (pcells l) ∧ ∀ n ∈ l, n < 65536 := by
  obtain ⟨A, n, c, l, rfl, _, _, hr⟩ := trod_recs (R := fun _ (n : Nat) cs => cs = [.int .u16 (n : Nat)] ∧ n < 65536) Try.underlying61 rfl cells_u16 (by omega) (fun _ cs _ hl h => by
    match cs, hl with
    | [v], _ =>
      obtain ⟨k, e, hk⟩ := u16_open h
      exact ⟨k, by rw [e], hk⟩) h
  have hn := Recs.len (by omega) hr
  obtain ⟨xs, h1, h2⟩ := hr
  obtain ⟨rfl, hk⟩ := flat_picks h2
  subst hn
  exact ⟨A, c, l, rfl, h1, hk⟩
end
end Go.Proofs.YtgabidgpngiecaaOpen

namespace Go.Proofs.Ytgabidgpngiecaa.RowLearnOrders
open Go.ChangeShapes Go.WideShapes Go.ChangeAt Go.RowKit Go.Proofs.YtgabidgpngiecaaKit Go.Proofs.YtgabidgpngiecaaOpen Go.Proofs.Ytgabidgpngiecaa
theorem own : ownKnob Try.prog.godebug = none := by kernel_rfl
theorem laidOut : laidOutB Try.prog = true := by kernel_rfl
set_option maxRecDepth 100000 in
theorem lifted (os : Os) (started : os.Started) (H : Type) (enc : TypeId × Value → H) :
    ReturnsInHanded {} Try.checked os 7 .any (Rows.learnOrdersSpec.pre6 enc Try.prog Try.f7 Rows.learnOrdersRow.domain false) (Rows.learnOrdersSpec.post enc Try.prog Try.f7 false true false false) := by
  refine returnsInHanded_of_change_sized (C := Try.checked) own started (by kernel_rfl) Try.func7
    (ChangeSpec.witness6 (enc := enc) (C := Try.checked) false ⟨#[], #[.slice none 0 0, .slice none 0 0, .slice none 0 0], []⟩ 8 (by kernel_rfl) (by kernel_rfl) (by kernel_rfl) (by kernel_rfl)) ?_
  intro W base args ds gs before hval0 hW hcnd hsz0 _
  have hval : ∀ (j : Nat) t v, Try.f7.params[j]? = some t → args[j]? = some v → Value.okWide Try.prog W .any base t v := hval0
  have hW' := hW
  obtain ⟨p, q, hA0, hV, rfl, hfz, hnd⟩ := hW
  have hA : DataW.TrodAll enc Try.prog W 0 (fun _ => true) true Try.f7.params.toList args.toList ds p := hA0
  rw [Try.params7] at hA hval
  obtain ⟨v0, vs0, d0, ds0, p0, q0, hargs0, rfl, rfl, h0, r0⟩ := trodAll_cons hA
  obtain ⟨v1, vs1, d1, ds1, p1, q1, hargs1, rfl, rfl, h1, r1⟩ := trodAll_cons r0
  obtain ⟨v2, vs2, d2, ds2, p2, q2, hargs2, rfl, rfl, h2, r2⟩ := trodAll_cons r1
  obtain ⟨rfl, rfl, rfl⟩ := trodAll_nil r2
  obtain rfl : args = #[v0, v1, v2] := by cases args; simp_all
  obtain ⟨rfl, rfl⟩ := trodVars_none hV
  have k0 := h0
  have k1 := h1
  have k2 := h2
  have lt0 : ∀ x ∈ p0, x.block < W.heap.size := by obtain ⟨m, hm⟩ := k0; exact DataW.trod_lt m _ _ _ hm
  have lt1 : ∀ x ∈ p1, x.block < W.heap.size := by obtain ⟨m, hm⟩ := k1; exact DataW.trod_lt m _ _ _ hm
  have lt2 : ∀ x ∈ p2, x.block < W.heap.size := by obtain ⟨m, hm⟩ := k2; exact DataW.trod_lt m _ _ _ hm
  obtain ⟨fuel0, hf0⟩ := h0
  obtain ⟨fuel1, hf1⟩ := h1
  obtain ⟨fuel2, hf2⟩ := h2
  obtain ⟨A0, n0, c0, rfl⟩ := okWide_slice Try.underlying22 (hval 0 22 v0 rfl rfl)
  obtain ⟨A1, n1, c1, rfl⟩ := okWide_slice Try.underlying61 (hval 1 61 v1 rfl rfl)
  obtain ⟨A2, n2, c2, rfl⟩ := okWide_slice Try.underlying62 (hval 2 62 v2 rfl rfl)
  obtain ⟨A, c, l, e0, hmax, hl⟩ := rows_open hf0
  obtain ⟨Ap, cp, ps, e1, hp, hps⟩ := picks_open hf1
  obtain ⟨Aq, cq, qs, e2, _, hq, hqk⟩ := asks_open hf2
  cases e0
  cases e1
  cases e2
  clear hA0 hval0 hsz0
  refine (learnOrders_walk hl hmax hp hps hq hqk).mono fun e W' ⟨he, hkp⟩ => ?_
  have bel := hkp.toBelow
  subst he
  exact ⟨_, rfl, _, _, _, [], _, [], hW', trodAll_mk1 (shut_bool Try.underlying4 _), (trodAll_cons_mk (Below.trod laidOut (by kernel_rfl) (of_decide_eq_true (by kernel_rfl)) k0 bel lt0) (trodAll_cons_mk (Below.trod laidOut (by kernel_rfl) (of_decide_eq_true (by kernel_rfl)) k1 bel lt1) (trodAll_cons_mk (Below.trod laidOut (by kernel_rfl) (of_decide_eq_true (by kernel_rfl)) k2 bel lt2) trodAll_mk0))), rfl, bel.frame _, fun h => by cases h⟩
theorem over : Rows.learnOrdersRow.holds Try.pinned (OpenSpec.ofChange Rows.learnOrdersSpec) :=
  OpenClaim.holds_of_wide 7 Try.f7 rfl rfl rfl rfl rfl rfl rfl ⟨rfl, rfl, rfl, rfl, rfl⟩ rfl rfl rfl rfl rfl (by kernel_rfl) Try.func7 (by kernel_rfl)
    (of_decide_eq_true (by kernel_rfl)) (by unfold Func.isWrapper; first | (rw [if_pos (by decide +kernel)]; kernel_rfl) | (rw [if_neg (by decide +kernel)]; exact ⟨rfl, rfl⟩))
    (fun os started H enc _ => lifted os started H enc)
end Go.Proofs.Ytgabidgpngiecaa.RowLearnOrders
namespace Go.Proofs.Ytgabidgpngiecaa
theorem learnOrders_holds : Rows.LearnOrdersSaid := RowLearnOrders.over
#print axioms learnOrders_holds
end Go.Proofs.Ytgabidgpngiecaa
