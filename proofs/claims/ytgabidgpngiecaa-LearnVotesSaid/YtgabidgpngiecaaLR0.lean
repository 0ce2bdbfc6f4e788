/- Contracts of the reference's within, point, Allowed, before. Conditions: none. -/
import Derived.Test.YtgabidgpngiecaaLV0
namespace Go.Proofs.Ytgabidgpngiecaa
open Go.RowKit Go.Proofs.YtgabidgpngiecaaKit Go.Proofs.YtgabidgpngiecaaPlain Go.Sort

set_option maxHeartbeats 400000 in
theorem within_any (n lo hi : Int) (w : World) : Calls Try.prog 63 #[.int .i64 n, .int .i64 lo, .int .i64 hi] w fun e w' => e = .returned (.bool (decide (lo ≤ n ∧ n ≤ hi))) ∧ w = w' := by
  by_cases h1 : lo ≤ n
  · by_cases h2 : n ≤ hi
    · go_enter Try.func63, Try.ntmps63
      go_wp2
      go_ret
      exact ⟨ret_bool (by simp [h1, h2]), rfl⟩
    · go_enter Try.func63, Try.ntmps63
      go_wp2
      go_ret
      exact ⟨ret_bool (by simp [h2]), rfl⟩
  · go_enter Try.func63, Try.ntmps63
    go_wp2
    go_ret
    exact ⟨ret_bool (by simp; omega), rfl⟩
set_option maxHeartbeats 1000000 in
theorem point_any (x y z : Int) (w : World) : Calls Try.prog 62 #[.agg #[.int .i64 x, .int .i64 y, .int .i64 z]] w fun e w' => e = .returned (.bool (decide (okX x ∧ okX y ∧ okX z))) ∧ Keep No w w' := by
  have hA := Lib.hid (fun W => within_any x (-1000) 1000 W)
  have hB := Lib.hid (fun W => within_any y (-1000) 1000 W)
  have hC := Lib.hid (fun W => within_any z (-1000) 1000 W)
  have HK := Lib.hid ((Keep.refl No w).alloc (.cells #[.int .i64 x, .int .i64 y, .int .i64 z] 31))
  have B0 := Blk.new w 31 #[.int .i64 x, .int .i64 y, .int .i64 z]
  have f0 := B0.cell 0
  have f1 := B0.cell 1
  have f2 := B0.cell 2
  simp only [List.getElem?_toArray, List.getElem?_cons_zero, List.getElem?_cons_succ] at f0 f1 f2
  have HE := Lib.hid (show decide (okX x ∧ okX y ∧ okX z) = (decide (-1000 ≤ x ∧ x ≤ 1000) && (decide (-1000 ≤ y ∧ y ≤ 1000) && decide (-1000 ≤ z ∧ z ≤ 1000))) from by
    rw [← Bool.decide_and, ← Bool.decide_and]
    rfl)
  rw [HE.out]
  clear HE B0
  generalize decide (-1000 ≤ x ∧ x ≤ 1000) = b1 at *
  generalize decide (-1000 ≤ y ∧ y ≤ 1000) = b2 at *
  generalize decide (-1000 ≤ z ∧ z ≤ 1000) = b3 at *
  cases b1 with
  | false =>
    go_enter Try.func62, Try.ntmps62
    go_wp2
    refine wp_loop_rounds 4 ?_
    rw [rounds_succ]
    go_wp2_with (go_at_call 63; refine (hA.out _).mono ?_; rintro e w' ⟨rfl, rfl⟩)
    go_ret
    exact ⟨rfl, HK.out⟩
  | true =>
    cases b2 with
    | false =>
      go_enter Try.func62, Try.ntmps62
      go_wp2
      refine wp_loop_rounds 4 ?_
      rw [rounds_succ]
      go_wp2_with (go_at_call 63; refine (hA.out _).mono ?_; rintro e w' ⟨rfl, rfl⟩)
      rw [rounds_succ]
      go_wp2_with (go_at_call 63; refine (hB.out _).mono ?_; rintro e w' ⟨rfl, rfl⟩)
      go_ret
      exact ⟨rfl, HK.out⟩
    | true =>
      cases b3 with
      | false =>
        go_enter Try.func62, Try.ntmps62
        go_wp2
        refine wp_loop_rounds 4 ?_
        rw [rounds_succ]
        go_wp2_with (go_at_call 63; refine (hA.out _).mono ?_; rintro e w' ⟨rfl, rfl⟩)
        rw [rounds_succ]
        go_wp2_with (go_at_call 63; refine (hB.out _).mono ?_; rintro e w' ⟨rfl, rfl⟩)
        rw [rounds_succ]
        go_wp2_with (go_at_call 63; refine (hC.out _).mono ?_; rintro e w' ⟨rfl, rfl⟩)
        go_ret
        exact ⟨rfl, HK.out⟩
      | true =>
        go_enter Try.func62, Try.ntmps62
        go_wp2
        refine wp_loop_rounds 4 ?_
        rw [rounds_succ]
        go_wp2_with (go_at_call 63; refine (hA.out _).mono ?_; rintro e w' ⟨rfl, rfl⟩)
        rw [rounds_succ]
        go_wp2_with (go_at_call 63; refine (hB.out _).mono ?_; rintro e w' ⟨rfl, rfl⟩)
        rw [rounds_succ]
        go_wp2_with (go_at_call 63; refine (hC.out _).mono ?_; rintro e w' ⟨rfl, rfl⟩)
        rw [rounds_succ]
        go_wp2
        go_ret
        exact ⟨rfl, HK.out⟩
set_option maxHeartbeats 1000000 in
theorem rallowed_any (r : Row) (w : World) : Calls Try.prog 53 #[r.v] w fun e w' => e = .returned (.bool (decide (okRow r))) ∧ Keep No w w' := by
  have hI := Lib.hid (fun W => point_any r.a r.b r.c W)
  have hW := Lib.hid (fun W => within_any r.l 0 7 W)
  have B0 := Blk.new w 33 #[.int .i64 r.a, .int .i64 r.b, .int .i64 r.c, .int .i64 r.l]
  have k0 := (Keep.refl No w).alloc (.cells #[.int .i64 r.a, .int .i64 r.b, .int .i64 r.c, .int .i64 r.l] 33)
  have hE := Lib.hid (show decide (okRow r) = (decide (okX r.a ∧ okX r.b ∧ okX r.c) && decide (0 ≤ r.l ∧ r.l ≤ 7)) from by
    rw [← Bool.decide_and]
    exact decide_eq_decide.2 ⟨fun ⟨h1, h2, h3, h4, h5⟩ => ⟨⟨h1, h2, h3⟩, h4, by omega⟩, fun ⟨⟨h1, h2, h3⟩, h4, h5⟩ => ⟨h1, h2, h3, h4, by omega⟩⟩)
  have f0 := B0.cell 0
  have f1 := B0.cell 1
  have f2 := B0.cell 2
  have HB := Lib.hid B0
  simp only [List.getElem?_toArray, List.getElem?_cons_zero, List.getElem?_cons_succ] at f0 f1 f2
  have HK := Lib.hid k0
  clear B0 k0
  rw [hE.out]
  generalize decide (okX r.a ∧ okX r.b ∧ okX r.c) = b1 at *
  generalize decide (0 ≤ r.l ∧ r.l ≤ 7) = b2 at *
  unfold Row.v
  clear hE
  go_enter Try.func53, Try.ntmps53
  go_wp2_with fail
  generalize w.alloc (.cells #[.int .i64 r.a, .int .i64 r.b, .int .i64 r.c, .int .i64 r.l] 33) = w0 at *
  refine (hI.out w0).mono ?_
  rintro e w1 ⟨rfl, k1⟩
  have f4 : w1.cell? ⟨w.heap.size, 3, none⟩ = some (.int .i64 r.l) := (HB.out.keep k1 (fun x => x)).cell 3
  have HK1 := Lib.hid (HK.out.trans k1 (fun _ x => x.elim))
  clear f0 f1 f2 k1 hI HK HB
  cases b1 with
  | false =>
    go_wp2
    go_ret
    exact ⟨rfl, HK1.out⟩
  | true =>
    go_wp2_with (go_at_call 63; refine (hW.out _).mono ?_; rintro e w' ⟨rfl, rfl⟩)
    go_ret
    exact ⟨rfl, HK1.out⟩

instance (r s : Row) : Decidable (lexLt r s) := inferInstanceAs (Decidable (_ ∨ _))
set_option maxHeartbeats 2000000 in
set_option maxRecDepth 100000 in
theorem before_any (r s : Row) (w : World) : Calls Try.prog 43 #[r.v, s.v] w fun e w' => e = .returned (.bool (decide (lexLt r s))) ∧ Grown w w' := by
  have mixed : Try.prog.follows .mixedOrders = true := by kernel_rfl
  obtain ⟨a, b, c, l⟩ := r
  obtain ⟨a', b', c', l'⟩ := s
  have HG := Lib.hid (((Grown.refl w).alloc (.cells #[.int .i64 a, .int .i64 b, .int .i64 c, .int .i64 l] 33)).alloc (.cells #[.int .i64 a', .int .i64 b', .int .i64 c', .int .i64 l'] 33))
  have B0 := (Blk.new w 33 #[.int .i64 a, .int .i64 b, .int .i64 c, .int .i64 l]).alloc (.cells #[.int .i64 a', .int .i64 b', .int .i64 c', .int .i64 l'] 33)
  have B1 := Blk.new (w.alloc (.cells #[.int .i64 a, .int .i64 b, .int .i64 c, .int .i64 l] 33)) 33 #[.int .i64 a', .int .i64 b', .int .i64 c', .int .i64 l']
  rw [show (w.alloc (.cells #[.int .i64 a, .int .i64 b, .int .i64 c, .int .i64 l] 33)).heap.size = w.heap.size + 1 by simp] at B1
  have f0 := B0.cell 0
  have f1 := B0.cell 1
  have f2 := B0.cell 2
  have f3 := B0.cell 3
  have g0 := B1.cell 0
  have g1 := B1.cell 1
  have g2 := B1.cell 2
  have g3 := B1.cell 3
  simp only [List.getElem?_toArray, List.getElem?_cons_zero, List.getElem?_cons_succ] at f0 f1 f2 f3 g0 g1 g2 g3
  clear B0 B1
  unfold Row.v
  go_enter Try.func43, Try.ntmps43
  go_wp2_with fail
  generalize (w.alloc (.cells #[.int .i64 a, .int .i64 b, .int .i64 c, .int .i64 l] 33)).alloc (.cells #[.int .i64 a', .int .i64 b', .int .i64 c', .int .i64 l'] 33) = wa at *
  refine wp_loop_rounds 4 ?_
  rw [rounds_succ]
  by_cases ha : a = a'
  · subst ha
    have q1 : (a != a) = false := by simp
    go_wp2_with fail
    go_quiet (fail)
    go_wp2_with fail
    rw [rounds_succ]
    by_cases hb : b = b'
    · subst hb
      have q2 : (b != b) = false := by simp
      go_wp2_with fail
      go_quiet (fail)
      go_wp2_with fail
      rw [rounds_succ]
      by_cases hc : c = c'
      · subst hc
        have q3 : (c != c) = false := by simp
        have HE := Lib.hid (show decide (l < l') = decide (lexLt ⟨a, b, c, l⟩ ⟨a, b, c, l'⟩) from decide_eq_decide.2 (by unfold lexLt; simp))
        go_wp2_with fail
        go_quiet (fail)
        go_wp2_with fail
        rw [rounds_succ]
        go_wp2_with fail
        go_ret
        exact ⟨ret_bool HE.out, by first | exact HG.out.drewN _ | exact (HG.out.drewN _).drewN _ | exact ((HG.out.drewN _).drewN _).drewN _⟩
      · have q3 : (c != c') = true := by simp [hc]
        have HE := Lib.hid (show decide (c < c') = decide (lexLt ⟨a, b, c, l⟩ ⟨a, b, c', l'⟩) from decide_eq_decide.2 (by unfold lexLt; simp; omega))
        go_wp2_with fail
        go_quiet (fail)
        go_wp2_with fail
        go_quiet (fail)
        go_wp2_with fail
        go_ret
        exact ⟨ret_bool HE.out, by first | exact HG.out.drewN _ | exact (HG.out.drewN _).drewN _ | exact ((HG.out.drewN _).drewN _).drewN _⟩
    · have q2 : (b != b') = true := by simp [hb]
      have HE := Lib.hid (show decide (b < b') = decide (lexLt ⟨a, b, c, l⟩ ⟨a, b', c', l'⟩) from decide_eq_decide.2 (by unfold lexLt; simp; omega))
      go_wp2_with fail
      go_quiet (fail)
      go_wp2_with fail
      go_quiet (fail)
      go_wp2_with fail
      go_ret
      exact ⟨ret_bool HE.out, by first | exact HG.out.drewN _ | exact (HG.out.drewN _).drewN _ | exact ((HG.out.drewN _).drewN _).drewN _⟩
  · have q1 : (a != a') = true := by simp [ha]
    have HE := Lib.hid (show decide (a < a') = decide (lexLt ⟨a, b, c, l⟩ ⟨a', b', c', l'⟩) from decide_eq_decide.2 (by unfold lexLt; simp; omega))
    go_wp2_with fail
    go_quiet (fail)
    go_wp2_with fail
    go_quiet (fail)
    go_wp2_with fail
    go_ret
    exact ⟨ret_bool HE.out, by first | exact HG.out.drewN _ | exact (HG.out.drewN _).drewN _ | exact ((HG.out.drewN _).drewN _).drewN _⟩
end Go.Proofs.Ytgabidgpngiecaa
