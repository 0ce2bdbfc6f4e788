/- A model's rows in memory; contracts of learn's New, none, inside, allowed. Conditions: none. -/
import Derived.Test.YtgabidgpngiecaaGreatProg
import Derived.Test.YtgabidgpngiecaaGreatLK
import Derived.Test.YtgabidgpngiecaaGreatMP
import Derived.Test.YtgabidgpngiecaaGreatLP1
import Derived.DeepKeys4
import Derived.Deep.DeepCutAuto
namespace Go.Proofs.YtgabidgpngiecaaGreat
open Go.RowKit Go.Proofs.YtgabidgpngiecaaGreatKit Go.Proofs.YtgabidgpngiecaaGreatPlain
open Go.Maps (Keyed)

theorem ret_bool {a b : Bool} (h : a = b) : Ending.returned (.bool a) = .returned (.bool b) := by rw [h]
theorem ret_int {k : IntKind} {a b : Int} (h : a = b) : Ending.returned (.int k a) = .returned (.int k b) := by rw [h]

/-! ### Rows as values -/
def _root_.Go.Proofs.YtgabidgpngiecaaGreatPlain.Row.cells (r : Row) : List Value := [.int .i64 r.a, .int .i64 r.b, .int .i64 r.c, .int .i64 r.l]
def _root_.Go.Proofs.YtgabidgpngiecaaGreatPlain.Row.v (r : Row) : Value := .agg #[.int .i64 r.a, .int .i64 r.b, .int .i64 r.c, .int .i64 r.l]
theorem row_v_inj {r s : Row} (h : r.v = s.v) : r = s := by
  cases r; cases s
  simp [Row.v] at h
  simp [h]
theorem laidOut : laidOutB Tryz.prog = true := by kernel_rfl
theorem rowLaw : WideMaps.KeyLaw Tryz.prog 30 := deep_law_laid laidOut (m := 3) (by decide) (of_decide_eq_true (by kernel_rfl)) (by kernel_rfl) (by kernel_rfl)
theorem rowKeyed : Keyed Tryz.prog 30 := Keyed.of_law rowLaw
theorem zero_int (w : World) : (zeroValue 3).run Tryz.prog w = .ok (.int .i64 0) w := by kernel_rfl
theorem wf_small {n : Int} (h1 : -1000000 ≤ n) (h2 : n ≤ 1000000) : (Lit.int .i64 n).wf = true := by
  simp [Lit.wf, IntKind.min, IntKind.max, IntKind.signed, IntKind.bits]
  omega
theorem cells_row : Tryz.prog.cellsOf 30 = 4 := by kernel_rfl
theorem cells_three : Tryz.prog.cellsOf 28 = 3 := by kernel_rfl
theorem cells_int : Tryz.prog.cellsOf 3 = 1 := by kernel_rfl
theorem row_key {r : Row} (h : okRow r) : ∃ kl, keyOf Tryz.prog 30 r.v = some kl := by
  obtain ⟨⟨h1, h2⟩, ⟨h3, h4⟩, ⟨h5, h6⟩, h7, h8⟩ := h
  have w1 := wf_small (n := r.a) (by omega) (by omega)
  have w2 := wf_small (n := r.b) (by omega) (by omega)
  have w3 := wf_small (n := r.c) (by omega) (by omega)
  have w4 := wf_small (n := r.l) (by omega) (by omega)
  obtain ⟨m, hm⟩ : ∃ m, Tryz.prog.types.size + 1 = m + 3 := ⟨Tryz.prog.types.size - 2, by have : 2 ≤ Tryz.prog.types.size := of_decide_eq_true (by kernel_rfl); omega⟩
  have hk : Tryz.prog.keyType 30 = true := by kernel_rfl
  have hf : Value.formed Tryz.prog 30 r.v = true := by simp [Value.formed, Row.v, Tryz.underlying30, cells_row]
  have hi : ∀ (d : Nat) (n : Int), (Lit.int .i64 n).wf = true → Tryz.prog.keyLits (d + 1) 3 [.int .i64 n] = some [.int .i64 n] := fun d n hn => by simp [Program.keyLits, Tryz.underlying3, hn]
  unfold keyOf
  rw [Tryz.underlying30]
  simp only [hk, hm, Row.v, Value.cells]
  simp [Program.keyLits, Tryz.underlying30, Tryz.underlying28, cells_row, cells_three, cells_int, w1, w2, w3, w4, List.range, List.range.loop]
  exact hf

/-! ### New, none, inside, allowed -/
theorem new_any (w : World) : Calls Tryz.prog 5 #[] w fun e w' =>
    e = .returned (.pointer (some ⟨w.heap.size + 1, 0, none⟩)) ∧ w' = (w.alloc (.map #[] 0)).alloc (.cells #[.bool true, .map (some w.heap.size), .int .i64 0] 43) := by
  have hmm := @run_makeMap Tryz.prog
  go_enter Tryz.func5, Tryz.ntmps5
  go_wp2
  go_ret
  exact ⟨rfl, rfl⟩
theorem none_any {w : World} {mb : Nat} (h : w.cell? ⟨mb, 0, none⟩ = some (.bool true)) : Calls Tryz.prog 26 #[.pointer (some ⟨mb, 0, none⟩)] w fun e w' => e = .returned (.bool false) ∧ w = w' := by
  go_enter Tryz.func26, Tryz.ntmps26
  go_wp2
  go_ret
  exact ⟨rfl, rfl⟩
set_option maxHeartbeats 1000000 in
theorem inside_any (x y z : Int) (w : World) : Calls Tryz.prog 41 #[.agg #[.int .i64 x, .int .i64 y, .int .i64 z]] w fun e w' => e = .returned (.bool (decide (okX x ∧ okX y ∧ okX z))) ∧ Keep No w w' := by
  have i0 : ∀ w, (Instr.index 28 (.agg #[.int .i64 x, .int .i64 y, .int .i64 z]) (.int .i64 0)).run Tryz.prog w = .ok (.int .i64 x) w := fun _ => by kernel_rfl
  have i1 : ∀ w, (Instr.index 28 (.agg #[.int .i64 x, .int .i64 y, .int .i64 z]) (.int .i64 1)).run Tryz.prog w = .ok (.int .i64 y) w := fun _ => by kernel_rfl
  have i2 : ∀ w, (Instr.index 28 (.agg #[.int .i64 x, .int .i64 y, .int .i64 z]) (.int .i64 2)).run Tryz.prog w = .ok (.int .i64 z) w := fun _ => by kernel_rfl
  have HK := Lib.hid ((Keep.refl No w).alloc (.cells #[.int .i64 x, .int .i64 y, .int .i64 z] 28))
  go_enter Tryz.func41, Tryz.ntmps41
  by_cases h1 : okX x
  · by_cases h2 : okX y
    · by_cases h3 : okX z
      · have e := Lib.hid (decide_eq_true (show okX x ∧ okX y ∧ okX z from ⟨h1, h2, h3⟩))
        obtain ⟨a1, a2⟩ := h1
        obtain ⟨b1, b2⟩ := h2
        obtain ⟨c1, c2⟩ := h3
        go_wp2
        refine wp_loop_rounds 4 ?_
        rw [rounds_succ]
        go_wp2
        rw [rounds_succ]
        go_wp2
        rw [rounds_succ]
        go_wp2
        rw [rounds_succ]
        go_wp2
        go_ret
        exact ⟨ret_bool e.out.symm, HK.out⟩
      · have e := Lib.hid (decide_eq_false (show ¬ (okX x ∧ okX y ∧ okX z) from fun h => h3 h.2.2))
        rcases (show z < -1000 ∨ (-1000 ≤ z ∧ 1000 < z) from by unfold okX at h3; omega) with hb | ⟨hb, hb2⟩
        all_goals
          clear h3
          obtain ⟨a1, a2⟩ := h1
          obtain ⟨b1, b2⟩ := h2
          go_wp2
          refine wp_loop_rounds 4 ?_
          rw [rounds_succ]
          go_wp2
          rw [rounds_succ]
          go_wp2
          rw [rounds_succ]
          go_wp2
          go_ret
          exact ⟨ret_bool e.out.symm, HK.out⟩
    · have e := Lib.hid (decide_eq_false (show ¬ (okX x ∧ okX y ∧ okX z) from fun h => h2 h.2.1))
      rcases (show y < -1000 ∨ (-1000 ≤ y ∧ 1000 < y) from by unfold okX at h2; omega) with hb | ⟨hb, hb2⟩
      all_goals
        clear h2
        obtain ⟨a1, a2⟩ := h1
        go_wp2
        refine wp_loop_rounds 4 ?_
        rw [rounds_succ]
        go_wp2
        rw [rounds_succ]
        go_wp2
        go_ret
        exact ⟨ret_bool e.out.symm, HK.out⟩
  · have e := Lib.hid (decide_eq_false (show ¬ (okX x ∧ okX y ∧ okX z) from fun h => h1 h.1))
    rcases (show x < -1000 ∨ (-1000 ≤ x ∧ 1000 < x) from by unfold okX at h1; omega) with hb | ⟨hb, hb2⟩
    all_goals
      clear h1
      go_wp2
      refine wp_loop_rounds 4 ?_
      rw [rounds_succ]
      go_wp2
      go_ret
      exact ⟨ret_bool e.out.symm, HK.out⟩

theorem allowed_any (r : Row) (w : World) : Calls Tryz.prog 27 #[r.v] w fun e w' => e = .returned (.bool (decide (okRow r))) ∧ Keep No w w' := by
  have hI := Lib.hid (fun W => inside_any r.a r.b r.c W)
  have B0 := Blk.new w 30 #[.int .i64 r.a, .int .i64 r.b, .int .i64 r.c, .int .i64 r.l]
  have k0 := (Keep.refl No w).alloc (.cells #[.int .i64 r.a, .int .i64 r.b, .int .i64 r.c, .int .i64 r.l] 30)
  have hE := Lib.hid (show decide (okRow r) = (decide (okX r.a ∧ okX r.b ∧ okX r.c) && (decide (0 ≤ r.l) && decide (r.l < 8))) from by
    rw [← Bool.decide_and, ← Bool.decide_and]
    exact decide_eq_decide.2 ⟨fun ⟨h1, h2, h3, h4⟩ => ⟨⟨h1, h2, h3⟩, h4⟩, fun ⟨⟨h1, h2, h3⟩, h4⟩ => ⟨h1, h2, h3, h4⟩⟩)
  have f0 := B0.cell 0
  have f1 := B0.cell 1
  have f2 := B0.cell 2
  have f3 := B0.cell 3
  simp only [List.getElem?_toArray, List.getElem?_cons_zero, List.getElem?_cons_succ] at f0 f1 f2 f3
  have HK := Lib.hid k0
  clear B0 k0
  rw [hE.out]
  generalize decide (okX r.a ∧ okX r.b ∧ okX r.c) = ins at *
  unfold Row.v
  clear hE
  go_enter Tryz.func27, Tryz.ntmps27
  go_wp2_with fail
  generalize w.alloc (.cells #[.int .i64 r.a, .int .i64 r.b, .int .i64 r.c, .int .i64 r.l] 30) = w0 at *
  refine (hI.out w0).mono ?_
  rintro e w1 ⟨rfl, k1⟩
  have f4 : w1.cell? ⟨w.heap.size, 3, none⟩ = some (.int .i64 r.l) := (k1.cell (p := ⟨w.heap.size, 3, none⟩) (World.block_lt_of_cell? _ _ f3) (fun x => x)).trans f3
  have HK1 := Lib.hid (HK.out.trans k1 (fun _ x => x.elim))
  clear f0 f1 f2 f3 k1 hI HK
  cases ins with
  | false =>
    go_wp2
    go_ret
    exact ⟨rfl, HK1.out⟩
  | true =>
    by_cases h1 : 0 ≤ r.l
    · by_cases h2 : r.l < 8
      · go_wp2
        go_ret
        exact ⟨ret_bool (by simp [h1, h2]), HK1.out⟩
      · have h2' : 8 ≤ r.l := by omega
        go_wp2
        go_ret
        exact ⟨ret_bool (by simp [h1]), HK1.out⟩
    · have h1' : r.l < 0 := by omega
      go_wp2
      go_ret
      exact ⟨ret_bool (by simp; omega), HK1.out⟩
end Go.Proofs.YtgabidgpngiecaaGreat
