/- OrderYields: the given statement, for every input; no condition. -/
import Derived.Test.YtdmckjojeddaaaaRows
import Derived.Test.YtdmckjojeddaaaaOpen
import Derived.Test.YtdmckjojeddaaaaYD
import Derived.ProofKit
import Derived.OpenShut
import Derived.ChangeOld
import Derived.SizedLaws
namespace Go.Proofs.Ytdmckjojeddaaaa.RowOrderYields
open Go.ChangeShapes Go.WideShapes Go.ChangeAt Go.RowKit Go.Proofs.YtdmckjojeddaaaaKit Go.Proofs.YtdmckjojeddaaaaOpen
theorem own : ownKnob Try.prog.godebug = none := by kernel_rfl
theorem laidOut : laidOutB Try.prog = true := by kernel_rfl
theorem cells_arg : Try.prog.cellsOf 76 = 5 := by kernel_rfl
theorem listN {cs : List Value} (h : cs.length = 5) : ∃ c0 c1 c2 c3 c4, cs = [c0, c1, c2, c3, c4] := by
  match cs, h with
  | [c0, c1, c2, c3, c4], _ => exact ⟨c0, c1, c2, c3, c4, rfl⟩
set_option maxRecDepth 100000 in
theorem lifted (os : Os) (started : os.Started) (H : Type) (enc : TypeId × Value → H) :
    ReturnsInHanded {} Try.checked os 9 .any (Rows.orderYieldsSpec.pre6 enc Try.prog Try.f9 Rows.orderYieldsRow.domain false) (Rows.orderYieldsSpec.post enc Try.prog Try.f9 false true false false) := by
  refine returnsInHanded_of_change_sized (C := Try.checked) own started (by kernel_rfl) Try.func9
    (ChangeSpec.witness6 (enc := enc) (C := Try.checked) false ⟨#[], #[.agg #[.int .u64 0, .slice none 0 0, .int .i64 0, .slice none 0 0, .slice none 0 0]], []⟩ 8 (by kernel_rfl) (by kernel_rfl) (by kernel_rfl) (by kernel_rfl)) ?_
  intro W base args ds gs before hval0 hW hcnd hsz0 _
  have hval : ∀ (j : Nat) t v, Try.f9.params[j]? = some t → args[j]? = some v → Value.okWide Try.prog W .any base t v := hval0
  have hW' := hW
  obtain ⟨p, q, hA0, hV, rfl, hfz, hnd⟩ := hW
  have hA : DataW.TrodAll enc Try.prog W 0 (fun _ => true) true Try.f9.params.toList args.toList ds p := hA0
  rw [Try.params9] at hA hval
  obtain ⟨v0, vs0, d0, ds0, p0, q0, hargs0, rfl, rfl, h0, r0⟩ := trodAll_cons hA
  obtain ⟨rfl, rfl, rfl⟩ := trodAll_nil r0
  obtain rfl : args = #[v0] := by cases args; simp_all
  obtain ⟨rfl, rfl⟩ := trodVars_none hV
  obtain ⟨cs, rfl, hsz⟩ := okWide_struct Try.underlying76 (hval 0 76 v0 rfl rfl)
  have k0 := h0
  have lt0 : ∀ x ∈ p0, x.block < W.heap.size := by obtain ⟨m, hm⟩ := k0; exact DataW.trod_lt m _ _ _ hm
  obtain ⟨fuel, hf⟩ := h0
  obtain ⟨c0, c1, c2, c3, c4, hcs⟩ := listN (cs := cs.toList) (by simpa using hsz.trans cells_arg)
  obtain rfl : cs = #[c0, c1, c2, c3, c4] := by cases cs; simp_all
  obtain ⟨_, n, hfs⟩ := trod_fields (cs := [c0, c1, c2, c3, c4]) Try.underlying76 (by kernel_rfl) hf
  obtain ⟨_, y0, e0, g0⟩ := hfs 0 _ rfl (by simp)
  obtain ⟨_, y1, e1, g1⟩ := hfs 1 _ rfl (by simp)
  obtain ⟨_, y2, e2, g2⟩ := hfs 2 _ rfl (by simp)
  obtain ⟨_, y3, e3, g3⟩ := hfs 3 _ rfl (by simp)
  obtain ⟨_, y4, e4, g4⟩ := hfs 4 _ rfl (by simp)
  simp at e0 e1 e2 e3 e4
  subst e0 e1 e2 e3 e4
  obtain ⟨seed, rfl, _, _⟩ := u64_open g0
  obtain ⟨Apairs, npairs, cpairs, pairs, rfl, hcpairs, _, gpairs⟩ := pairs_open g1
  obtain ⟨stop, rfl, _, _⟩ := int_open g2
  obtain ⟨Akey, nkey, ckey, key, rfl, _, _, gkey⟩ := bytes_open g3
  obtain ⟨Avalue, nvalue, cvalue, value, rfl, _, _, gvalue⟩ := bytes_open g4
  clear hA0 hval0 hsz0
  refine (orderYields_walk _ _ _ _ _ _ _ _ _ _ _ _ _ _ W gpairs gkey gvalue (Nat.le_refl _)).mono fun e W' ⟨he, hkp⟩ => ?_
  have bel := hkp.toBelow
  subst he
  exact ⟨_, rfl, _, _, _, [], _, [], hW', trodAll_mk1 (shut_bool Try.underlying4 _), (trodAll_cons_mk (Below.trod laidOut (by kernel_rfl) (of_decide_eq_true (by kernel_rfl)) k0 bel lt0) trodAll_mk0), rfl, bel.frame _, fun h => by cases h⟩
theorem over : Rows.orderYieldsRow.holds Try.pinned (OpenSpec.ofChange Rows.orderYieldsSpec) :=
  OpenClaim.holds_of_wide 9 Try.f9 rfl rfl rfl rfl rfl rfl rfl ⟨rfl, rfl, rfl, rfl, rfl⟩ rfl rfl rfl rfl rfl (by kernel_rfl) Try.func9 (by kernel_rfl)
    (of_decide_eq_true (by kernel_rfl)) (by unfold Func.isWrapper; first | (rw [if_pos (by decide +kernel)]; kernel_rfl) | (rw [if_neg (by decide +kernel)]; exact ⟨rfl, rfl⟩))
    (fun os started H enc _ => lifted os started H enc)
end Go.Proofs.Ytdmckjojeddaaaa.RowOrderYields
namespace Go.Proofs.Ytdmckjojeddaaaa
theorem orderYields_holds : Rows.OrderYieldsSaid := RowOrderYields.over
#print axioms orderYields_holds
end Go.Proofs.Ytdmckjojeddaaaa
