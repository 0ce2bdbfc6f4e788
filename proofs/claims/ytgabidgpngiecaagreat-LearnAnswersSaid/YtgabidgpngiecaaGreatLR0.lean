/- The reference's functions: Allowed, before, Learn, Sorted, Near. Conditions: each names its own. -/
import Derived.Test.YtgabidgpngiecaaGreatLV0
import Derived.Test.YtgabidgpngiecaaGreatLA0
import Derived.Test.YtgabidgpngiecaaGreatLK3
import Derived.Deep.CutBlock
import Derived.Deep.RegionHeld3
namespace Go.Proofs.YtgabidgpngiecaaGreat
open Go.RowKit Go.Proofs.YtgabidgpngiecaaGreatKit Go.Proofs.YtgabidgpngiecaaGreatPlain Go.Sort

set_option maxHeartbeats 400000 in
theorem within_any (n lo hi : Int) (w : World) : Calls Tryz.prog 48 #[.int .i64 n, .int .i64 lo, .int .i64 hi] w fun e w' => e = .returned (.bool (decide (lo ≤ n ∧ n ≤ hi))) ∧ w = w' := by
  by_cases h1 : lo ≤ n
  · by_cases h2 : n ≤ hi
    · go_enter Tryz.func48, Tryz.ntmps48
      go_wp2
      go_ret
      exact ⟨ret_bool (by simp [h1, h2]), rfl⟩
    · go_enter Tryz.func48, Tryz.ntmps48
      go_wp2
      go_ret
      exact ⟨ret_bool (by simp [h2]), rfl⟩
  · go_enter Tryz.func48, Tryz.ntmps48
    go_wp2
    go_ret
    exact ⟨ret_bool (by simp; omega), rfl⟩
set_option maxHeartbeats 1000000 in
theorem point_any (x y z : Int) (w : World) : Calls Tryz.prog 51 #[.agg #[.int .i64 x, .int .i64 y, .int .i64 z]] w fun e w' => e = .returned (.bool (decide (okX x ∧ okX y ∧ okX z))) ∧ Keep No w w' := by
  have hA := Lib.hid (fun W => within_any x (-1000) 1000 W)
  have hB := Lib.hid (fun W => within_any y (-1000) 1000 W)
  have hC := Lib.hid (fun W => within_any z (-1000) 1000 W)
  have HK := Lib.hid ((Keep.refl No w).alloc (.cells #[.int .i64 x, .int .i64 y, .int .i64 z] 28))
  have B0 := Blk.new w 28 #[.int .i64 x, .int .i64 y, .int .i64 z]
  have f0 := B0.cell 0
  have f1 := B0.cell 1
  have f2 := B0.cell 2
  simp only [List.getElem?_toArray, List.getElem?_cons_zero, List.getElem?_cons_succ] at f0 f1 f2
  have HE := Lib.hid (show decide (okX x ∧ okX y ∧ okX z) = (decide (-1000 ≤ x ∧ x ≤ 1000) && (decide (-1000 ≤ y ∧ y ≤ 1000) && decide (-1000 ≤ z ∧ z ≤ 1000))) from by
    rw [← Bool.decide_and, ← Bool.decide_and]
    rfl)
  rw [HE.out]
  clear HE B0
  generalize decide (-1000 ≤ x ∧ x ≤ 1000) = b1 at *
  generalize decide (-1000 ≤ y ∧ y ≤ 1000) = b2 at *
  generalize decide (-1000 ≤ z ∧ z ≤ 1000) = b3 at *
  cases b1 with
  | false =>
    go_enter Tryz.func51, Tryz.ntmps51
    go_wp2
    refine wp_loop_rounds 4 ?_
    rw [rounds_succ]
    go_wp2_with (go_at_call 48; refine (hA.out _).mono ?_; rintro e w' ⟨rfl, rfl⟩)
    go_ret
    exact ⟨rfl, HK.out⟩
  | true =>
    cases b2 with
    | false =>
      go_enter Tryz.func51, Tryz.ntmps51
      go_wp2
      refine wp_loop_rounds 4 ?_
      rw [rounds_succ]
      go_wp2_with (go_at_call 48; refine (hA.out _).mono ?_; rintro e w' ⟨rfl, rfl⟩)
      rw [rounds_succ]
      go_wp2_with (go_at_call 48; refine (hB.out _).mono ?_; rintro e w' ⟨rfl, rfl⟩)
      go_ret
      exact ⟨rfl, HK.out⟩
    | true =>
      cases b3 with
      | false =>
        go_enter Tryz.func51, Tryz.ntmps51
        go_wp2
        refine wp_loop_rounds 4 ?_
        rw [rounds_succ]
        go_wp2_with (go_at_call 48; refine (hA.out _).mono ?_; rintro e w' ⟨rfl, rfl⟩)
        rw [rounds_succ]
        go_wp2_with (go_at_call 48; refine (hB.out _).mono ?_; rintro e w' ⟨rfl, rfl⟩)
        rw [rounds_succ]
        go_wp2_with (go_at_call 48; refine (hC.out _).mono ?_; rintro e w' ⟨rfl, rfl⟩)
        go_ret
        exact ⟨rfl, HK.out⟩
      | true =>
        go_enter Tryz.func51, Tryz.ntmps51
        go_wp2
        refine wp_loop_rounds 4 ?_
        rw [rounds_succ]
        go_wp2_with (go_at_call 48; refine (hA.out _).mono ?_; rintro e w' ⟨rfl, rfl⟩)
        rw [rounds_succ]
        go_wp2_with (go_at_call 48; refine (hB.out _).mono ?_; rintro e w' ⟨rfl, rfl⟩)
        rw [rounds_succ]
        go_wp2_with (go_at_call 48; refine (hC.out _).mono ?_; rintro e w' ⟨rfl, rfl⟩)
        rw [rounds_succ]
        go_wp2
        go_ret
        exact ⟨rfl, HK.out⟩
set_option maxHeartbeats 1000000 in
theorem rallowed_any (r : Row) (w : World) : Calls Tryz.prog 28 #[r.v] w fun e w' => e = .returned (.bool (decide (okRow r))) ∧ Keep No w w' := by
  have hI := Lib.hid (fun W => point_any r.a r.b r.c W)
  have hW := Lib.hid (fun W => within_any r.l 0 7 W)
  have B0 := Blk.new w 30 #[.int .i64 r.a, .int .i64 r.b, .int .i64 r.c, .int .i64 r.l]
  have k0 := (Keep.refl No w).alloc (.cells #[.int .i64 r.a, .int .i64 r.b, .int .i64 r.c, .int .i64 r.l] 30)
  have hE := Lib.hid (show decide (okRow r) = (decide (okX r.a ∧ okX r.b ∧ okX r.c) && decide (0 ≤ r.l ∧ r.l ≤ 7)) from by
    rw [← Bool.decide_and]
    exact decide_eq_decide.2 ⟨fun ⟨h1, h2, h3, h4, h5⟩ => ⟨⟨h1, h2, h3⟩, h4, by omega⟩, fun ⟨⟨h1, h2, h3⟩, h4, h5⟩ => ⟨h1, h2, h3, h4, by omega⟩⟩)
  have f0 := B0.cell 0
  have f1 := B0.cell 1
  have f2 := B0.cell 2
  have HB := Lib.hid B0
  simp only [List.getElem?_toArray, List.getElem?_cons_zero, List.getElem?_cons_succ] at f0 f1 f2
  have HK := Lib.hid k0
  clear B0 k0
  rw [hE.out]
  generalize decide (okX r.a ∧ okX r.b ∧ okX r.c) = b1 at *
  generalize decide (0 ≤ r.l ∧ r.l ≤ 7) = b2 at *
  unfold Row.v
  clear hE
  go_enter Tryz.func28, Tryz.ntmps28
  go_wp2_with fail
  generalize w.alloc (.cells #[.int .i64 r.a, .int .i64 r.b, .int .i64 r.c, .int .i64 r.l] 30) = w0 at *
  refine (hI.out w0).mono ?_
  rintro e w1 ⟨rfl, k1⟩
  have f4 : w1.cell? ⟨w.heap.size, 3, none⟩ = some (.int .i64 r.l) := (HB.out.keep k1 (fun x => x)).cell 3
  have HK1 := Lib.hid (HK.out.trans k1 (fun _ x => x.elim))
  clear f0 f1 f2 k1 hI HK HB
  cases b1 with
  | false =>
    go_wp2
    go_ret
    exact ⟨rfl, HK1.out⟩
  | true =>
    go_wp2_with (go_at_call 48; refine (hW.out _).mono ?_; rintro e w' ⟨rfl, rfl⟩)
    go_ret
    exact ⟨rfl, HK1.out⟩

instance (r s : Row) : Decidable (lexLt r s) := inferInstanceAs (Decidable (_ ∨ _))
set_option maxHeartbeats 2000000 in
set_option maxRecDepth 100000 in
theorem before_any (r s : Row) (w : World) : Calls Tryz.prog 29 #[r.v, s.v] w fun e w' => e = .returned (.bool (decide (lexLt r s))) ∧ Grown w w' := by
  have mixed : Tryz.prog.follows .mixedOrders = true := by kernel_rfl
  obtain ⟨a, b, c, l⟩ := r
  obtain ⟨a', b', c', l'⟩ := s
  have HG := Lib.hid (((Grown.refl w).alloc (.cells #[.int .i64 a, .int .i64 b, .int .i64 c, .int .i64 l] 30)).alloc (.cells #[.int .i64 a', .int .i64 b', .int .i64 c', .int .i64 l'] 30))
  have B0 := (Blk.new w 30 #[.int .i64 a, .int .i64 b, .int .i64 c, .int .i64 l]).alloc (.cells #[.int .i64 a', .int .i64 b', .int .i64 c', .int .i64 l'] 30)
  have B1 := Blk.new (w.alloc (.cells #[.int .i64 a, .int .i64 b, .int .i64 c, .int .i64 l] 30)) 30 #[.int .i64 a', .int .i64 b', .int .i64 c', .int .i64 l']
  rw [show (w.alloc (.cells #[.int .i64 a, .int .i64 b, .int .i64 c, .int .i64 l] 30)).heap.size = w.heap.size + 1 by simp] at B1
  have f0 := B0.cell 0
  have f1 := B0.cell 1
  have f2 := B0.cell 2
  have f3 := B0.cell 3
  have g0 := B1.cell 0
  have g1 := B1.cell 1
  have g2 := B1.cell 2
  have g3 := B1.cell 3
  simp only [List.getElem?_toArray, List.getElem?_cons_zero, List.getElem?_cons_succ] at f0 f1 f2 f3 g0 g1 g2 g3
  clear B0 B1
  unfold Row.v
  go_enter Tryz.func29, Tryz.ntmps29
  go_wp2_with fail
  generalize (w.alloc (.cells #[.int .i64 a, .int .i64 b, .int .i64 c, .int .i64 l] 30)).alloc (.cells #[.int .i64 a', .int .i64 b', .int .i64 c', .int .i64 l'] 30) = wa at *
  refine wp_loop_rounds 4 ?_
  rw [rounds_succ]
  by_cases ha : a = a'
  · subst ha
    have q1 : (a != a) = false := by simp
    go_wp2_with fail
    go_quiet (fail)
    go_wp2_with fail
    rw [rounds_succ]
    by_cases hb : b = b'
    · subst hb
      have q2 : (b != b) = false := by simp
      go_wp2_with fail
      go_quiet (fail)
      go_wp2_with fail
      rw [rounds_succ]
      by_cases hc : c = c'
      · subst hc
        have q3 : (c != c) = false := by simp
        have HE := Lib.hid (show decide (l < l') = decide (lexLt ⟨a, b, c, l⟩ ⟨a, b, c, l'⟩) from decide_eq_decide.2 (by unfold lexLt; simp))
        go_wp2_with fail
        go_quiet (fail)
        go_wp2_with fail
        rw [rounds_succ]
        go_wp2_with fail
        go_ret
        exact ⟨ret_bool HE.out, by first | exact HG.out.drewN _ | exact (HG.out.drewN _).drewN _ | exact ((HG.out.drewN _).drewN _).drewN _⟩
      · have q3 : (c != c') = true := by simp [hc]
        have HE := Lib.hid (show decide (c < c') = decide (lexLt ⟨a, b, c, l⟩ ⟨a, b, c', l'⟩) from decide_eq_decide.2 (by unfold lexLt; simp; omega))
        go_wp2_with fail
        go_quiet (fail)
        go_wp2_with fail
        go_quiet (fail)
        go_wp2_with fail
        go_ret
        exact ⟨ret_bool HE.out, by first | exact HG.out.drewN _ | exact (HG.out.drewN _).drewN _ | exact ((HG.out.drewN _).drewN _).drewN _⟩
    · have q2 : (b != b') = true := by simp [hb]
      have HE := Lib.hid (show decide (b < b') = decide (lexLt ⟨a, b, c, l⟩ ⟨a, b', c', l'⟩) from decide_eq_decide.2 (by unfold lexLt; simp; omega))
      go_wp2_with fail
      go_quiet (fail)
      go_wp2_with fail
      go_quiet (fail)
      go_wp2_with fail
      go_ret
      exact ⟨ret_bool HE.out, by first | exact HG.out.drewN _ | exact (HG.out.drewN _).drewN _ | exact ((HG.out.drewN _).drewN _).drewN _⟩
  · have q1 : (a != a') = true := by simp [ha]
    have HE := Lib.hid (show decide (a < a') = decide (lexLt ⟨a, b, c, l⟩ ⟨a', b', c', l'⟩) from decide_eq_decide.2 (by unfold lexLt; simp; omega))
    go_wp2_with fail
    go_quiet (fail)
    go_wp2_with fail
    go_quiet (fail)
    go_wp2_with fail
    go_ret
    exact ⟨ret_bool HE.out, by first | exact HG.out.drewN _ | exact (HG.out.drewN _).drewN _ | exact ((HG.out.drewN _).drewN _).drewN _⟩
end Go.Proofs.YtgabidgpngiecaaGreat

namespace Go.Proofs.YtgabidgpngiecaaGreat
open Go.RowKit Go.Proofs.YtgabidgpngiecaaGreatKit Go.Proofs.YtgabidgpngiecaaGreatPlain Go.Sort

/-! ### Plain: rows in order -/
def insR (r : Row) : List Row → List Row
  | [] => [r]
  | x :: l => if lexLt r x then r :: x :: l else x :: insR r l
theorem insR_at (r : Row) : ∀ (l : List Row) (k : Nat), k ≤ l.length → (∀ j (h : j < l.length), j < k → ¬ lexLt r l[j]) → (∀ h : k < l.length, lexLt r l[k]) → insR r l = l.take k ++ r :: l.drop k
  | [], k, _, _, _ => by simp [insR]
  | x :: l, 0, _, _, h2 => by
    have h3 : lexLt r x := h2 (by simp)
    rw [insR, if_pos h3]; rfl
  | x :: l, k + 1, hk, h1, h2 => by
    have h3 : ¬ lexLt r x := h1 0 (by simp) (by omega)
    rw [insR, if_neg h3, insR_at r l k (by simpa using hk) (fun j hj hjk => h1 (j + 1) (by simpa using hj) (by omega)) (fun h => h2 (by simpa using h))]
    rfl
def learnE (l : List Row) (r : Row) : Int := if okRow r then (if 500 ≤ l.length then 5 else 0) else 1
def learnL (l : List Row) (r : Row) : List Row := if okRow r then (if 500 ≤ l.length then l else insR r l) else l

/-! ### Rows in slices -/
theorem rcells_cons (p : Row) (l : List Row) : rcells (p :: l) = p.cells ++ rcells l := by simp [rcells]
theorem rcells_append (l l' : List Row) : rcells (l ++ l') = rcells l ++ rcells l' := by simp [rcells]
theorem rcells_take : ∀ (l : List Row) (k : Nat), rcells (l.take k) = (rcells l).take (k * 4)
  | [], k => by simp [rcells]
  | p :: l, 0 => by simp [rcells]
  | p :: l, k + 1 => by
    rw [List.take_succ_cons, rcells_cons, rcells_take l k, rcells_cons, show (k + 1) * 4 = p.cells.length + k * 4 by show _ = 4 + k * 4; omega, List.take_length_add_append]
theorem rcells_drop : ∀ (l : List Row) (k : Nat), rcells (l.drop k) = (rcells l).drop (k * 4)
  | [], k => by simp [rcells]
  | p :: l, 0 => by simp
  | p :: l, k + 1 => by
    rw [List.drop_succ_cons, rcells_drop l k, rcells_cons, show (k + 1) * 4 = p.cells.length + k * 4 by show _ = 4 + k * 4; omega, List.drop_length_add_append]
theorem rcells_one (l : List Row) : ∀ u ∈ rcells l, u.oneCell' = true := by
  intro u hu
  unfold rcells at hu
  obtain ⟨cs, hcs, h1⟩ := List.mem_flatten.1 hu
  obtain ⟨r, _, rfl⟩ := List.mem_map.1 hcs
  exact row_one r u h1
/-- The value v reads as these rows. -/
def RIn (base : Nat) (w : World) (v : Value) (l : List Row) : Prop := ∃ A c, v = .slice A l.length c ∧ l.length ≤ c ∧ RowsIn base w A l
theorem RowsIn.new_ {base : Nat} {w w1 : World} {A : Option Addr} {l : List Row} (h : RowsIn base w A l) (hk : Keep No w w1) : RowsIn base w1 A l := Reads.new_ h hk
theorem RIn.new_ {base : Nat} {w w1 : World} {v : Value} {l : List Row} (h : RIn base w v l) (hk : Keep No w w1) : RIn base w1 v l := by
  obtain ⟨A, c, h1, h2, h3⟩ := h
  exact ⟨A, c, h1, h2, h3.new_ hk⟩
theorem ROwn.rin {B base : Nat} {w : World} {v : Value} {l : List Row} (h : ROwn B w v l) : RIn base w v l := by
  obtain ⟨A, c, rfl, hc⟩ := own_shape h
  exact ⟨A, c, rfl, hc, Reads.of_own h rfl⟩
theorem rrows_take {base : Nat} {w : World} {A : Option Addr} {l : List Row} (h : RowsIn base w A l) {k : Nat} (hk : k ≤ l.length) : Reads base w 30 4 A k (rcells (l.take k)) := by
  rw [rcells_take]
  exact Reads.take h hk
theorem rrows_drop {base : Nat} {w : World} {A : Option Addr} {l : List Row} (h : RowsIn base w A l) {k c : Nat} (hk : k ≤ l.length) (hc : l.length ≤ c) : Reads base w 30 4 (if c = k then A else A.map (·.add (k * 4))) (l.length - k) (rcells (l.drop k)) := by
  rw [rcells_drop]
  exact Reads.cut h hk hc
theorem own_empty {B : Nat} {w : World} (t : TypeId) (size : Nat) (hB : B ≤ w.heap.size) : (w.alloc (.cells #[] t)).ownsRow B t size (.slice (some ⟨w.heap.size, 0, none⟩) 0 0) 0 [] := by
  refine ⟨by simp, .inr ⟨w.heap.size, 0, #[], rfl, hB, heap_alloc_new w _, Nat.le_refl _, Nat.zero_le _, by simp, by simp⟩⟩
theorem insR_own {B k : Nat} {w : World} {v : Value} {r : Row} {l : List Row} (h : insR r l = l.take k ++ r :: l.drop k) (hk : k ≤ l.length) (ho : w.ownsRow B 30 4 v (k + 1 + (l.length - k)) (rcells (l.take k ++ [r]) ++ rcells (l.drop k))) : ROwn B w v (insR r l) := by
  have e : l.take k ++ r :: l.drop k = (l.take k ++ [r]) ++ l.drop k := by simp
  have hn : ((l.take k ++ [r]) ++ l.drop k).length = k + 1 + (l.length - k) := by simp; omega
  unfold ROwn
  rw [h, e, hn, rcells_append]
  exact ho
structure RSt (base : Nat) (w W : World) (v : Value) (l : List Row) (g : Nat) (r : Row) : Prop where
  rw_ : RIn base W v l
  bk : Blk W g 30 #[.int .i64 r.a, .int .i64 r.b, .int .i64 r.c, .int .i64 r.l]
  kp : Keep No w W
theorem RSt.new_ {base : Nat} {w W W' : World} {v : Value} {l : List Row} {g : Nat} {r : Row} (h : RSt base w W v l g r) (hk : Keep No W W') : RSt base w W' v l g r := ⟨h.rw_.new_ hk, h.bk.keep hk (fun x => x), h.kp.trans hk (fun _ x => x.elim)⟩

set_option maxHeartbeats 1000000 in
set_option maxRecDepth 100000 in
theorem rlearn_any {base : Nat} {w : World} {v : Value} {l : List Row} (r : Row) (h : RIn base w v l) (_hb : base ≤ w.heap.size) (hmax : l.length ≤ 1000000) :
    Calls Tryz.prog 10 #[v, r.v] w fun e w' => ∃ v', e = .returned (.tuple #[v', .int .i64 (learnE l r)]) ∧ RIn base w' v' (learnL l r) ∧ Keep No w w' := by
  have mixed : Tryz.prog.follows .mixedOrders = true := by kernel_rfl
  obtain ⟨i0, hi0, hz0, hz1, hz2⟩ := info_parts info_row
  have B0 := Blk.new w 30 #[.int .i64 r.a, .int .i64 r.b, .int .i64 r.c, .int .i64 r.l]
  have k0 := (Keep.refl No w).alloc (.cells #[.int .i64 r.a, .int .i64 r.b, .int .i64 r.c, .int .i64 r.l] 30)
  have H0 := Lib.hid (show RSt base w _ v l w.heap.size r from ⟨h.new_ k0, B0, k0⟩)
  have HA := Lib.hid (fun W => rallowed_any r W)
  have f0 := B0.cell 0
  have f1 := B0.cell 1
  have f2 := B0.cell 2
  have f3 := B0.cell 3
  simp only [List.getElem?_toArray, List.getElem?_cons_zero, List.getElem?_cons_succ] at f0 f1 f2 f3
  obtain ⟨A, c, rfl, hc, hR00⟩ := h
  have H00 := Lib.hid hR00
  clear B0 k0 hR00
  unfold learnE learnL Row.v
  by_cases hr : okRow r
  · rw [decide_eq_true hr] at HA
    rw [if_pos hr, if_pos hr]
    by_cases hl5 : 500 ≤ l.length
    · rw [if_pos hl5, if_pos hl5]
      have hlz : (500 : Int) ≤ (l.length : Int) := by omega
      go_enter Tryz.func10, Tryz.ntmps10
      go_wp2_with fail
      generalize w.alloc (.cells #[.int .i64 r.a, .int .i64 r.b, .int .i64 r.c, .int .i64 r.l] 30) = w0 at *
      unfold Row.v at HA
      refine (HA.out w0).mono ?_
      rintro e w1 ⟨rfl, k1⟩
      have H1 := Lib.hid (H0.out.new_ k1)
      clear k1
      go_wp2_with fail
      go_ret2
      exact ⟨_, rfl, H1.out.rw_, H1.out.kp⟩
    · rw [if_neg hl5, if_neg hl5]
      have hlz : ¬ (500 : Int) ≤ (l.length : Int) := by omega
      have hln : l.length < 500 := by omega
      go_enter Tryz.func10, Tryz.ntmps10
      go_wp2_with fail
      generalize w.alloc (.cells #[.int .i64 r.a, .int .i64 r.b, .int .i64 r.c, .int .i64 r.l] 30) = w0 at *
      unfold Row.v at HA
      refine (HA.out w0).mono ?_
      rintro e w1 ⟨rfl, k1⟩
      have H1 := Lib.hid (H0.out.new_ k1)
      clear k1 H0 HA f0 f1 f2 f3 hl5
      go_upto_block 0 with fail
      go_cut [7] (fun s7 wc => ∃ k : Nat, s7 = .int .i64 k ∧ k ≤ l.length ∧ Hid (insR r l = l.take k ++ r :: l.drop k) ∧ Hid (RSt base w wc (.slice A l.length c) l w.heap.size r))
      case first =>
        go_wp2_with fail
        go_loopw [7] (fun v7 wr => ∃ k : Nat, k ≤ l.length ∧ v7 = .int .i64 k ∧ Hid (∀ j (h : j < l.length), j < k → ¬ lexLt r l[j]) ∧ Hid (RSt base w wr (.slice A l.length c) l w.heap.size r)) (fun i _ => l.length - (intOf i).toNat)
        case atStart => exact ⟨0, Nat.zero_le _, rfl, Lib.hid (fun j _ h => by omega), H1⟩
        case round =>
          clear H1
          obtain ⟨k, hk, rfl, hI, hS⟩ := hrel
          have hz0 : (0 : Int) ≤ (k : Int) := by omega
          by_cases hlt : k < l.length
          · have hlz2 : (k : Int) < (l.length : Int) := by omega
            have hgd : decide ((k : Int) < (l.length : Int)) = true := decide_eq_true hlz2
            obtain ⟨A0, c0, eA, _, hR0⟩ := hS.out.rw_
            injection eA with eA _ ec
            subst eA
            subst ec
            have hat : ∀ n os, ∃ ad, A = some ad ∧ _ := fun n os => (hR0.new_ (Grown.keep ⟨n, os, rfl⟩ : Keep No wr (grow (wr.drewN n) os))).at_ hlt
            obtain ⟨ad, rfl, _⟩ := hat 0 #[]
            have hat2 : ∀ n os, (grow (wr.drewN n) os).cell? (ad.add (k * 4)) = some (.int .i64 l[k].a) ∧ (grow (wr.drewN n) os).cell? ⟨(ad.add (k * 4)).block, (ad.add (k * 4)).off + 1, none⟩ = some (.int .i64 l[k].b) ∧ (grow (wr.drewN n) os).cell? ⟨(ad.add (k * 4)).block, (ad.add (k * 4)).off + 2, none⟩ = some (.int .i64 l[k].c) ∧ (grow (wr.drewN n) os).cell? ⟨(ad.add (k * 4)).block, (ad.add (k * 4)).off + 3, none⟩ = some (.int .i64 l[k].l) := fun n os => by
              obtain ⟨ad', e, _, h1, h2, h3, h4⟩ := hat n os
              injection e with e
              subst e
              exact ⟨h1, h2, h3, h4⟩
            have e0 := fun n os => (hat2 n os).1
            have e1 := fun n os => (hat2 n os).2.1
            have e2 := fun n os => (hat2 n os).2.2.1
            have e3 := fun n os => (hat2 n os).2.2.2
            have b0 : ∀ n os, (grow (wr.drewN n) os).cell? ⟨w.heap.size, 0, none⟩ = some (.int .i64 r.a) := fun n os => (hS.out.bk.keep (Grown.keep ⟨n, os, rfl⟩ : Keep No wr (grow (wr.drewN n) os)) (fun x => x)).cell 0
            have b1 : ∀ n os, (grow (wr.drewN n) os).cell? ⟨w.heap.size, 1, none⟩ = some (.int .i64 r.b) := fun n os => (hS.out.bk.keep (Grown.keep ⟨n, os, rfl⟩ : Keep No wr (grow (wr.drewN n) os)) (fun x => x)).cell 1
            have b2 : ∀ n os, (grow (wr.drewN n) os).cell? ⟨w.heap.size, 2, none⟩ = some (.int .i64 r.c) := fun n os => (hS.out.bk.keep (Grown.keep ⟨n, os, rfl⟩ : Keep No wr (grow (wr.drewN n) os)) (fun x => x)).cell 2
            have b3 : ∀ n os, (grow (wr.drewN n) os).cell? ⟨w.heap.size, 3, none⟩ = some (.int .i64 r.l) := fun n os => (hS.out.bk.keep (Grown.keep ⟨n, os, rfl⟩ : Keep No wr (grow (wr.drewN n) os)) (fun x => x)).cell 3
            have HX := Lib.hid (show ∀ h : k < l.length, l[k] = l[k] from fun _ => rfl)
            have HB := Lib.hid (fun W => before_any r l[k] W)
            have HPm := Lib.hid (show ∀ j (h : j < l.length), j < k + 1 → j = k ∨ j < k from fun j _ h => by omega)
            clear hat hat2 hR0
            by_cases hb4 : lexLt r l[k]
            · rw [decide_eq_true hb4] at HB
              have HI2 := Lib.hid (insR_at r l k hk hI.out (fun _ => hb4))
              generalize l[k] = x at *
              unfold Row.v at HB
              clear hb4 HX
              go_wp2_with fail
              go_quiet_grown (first | (go_at_call 29; refine Calls.grown_of (HB.out _)))
              go_wp2_with fail
              go_meet
              case rel => exact ⟨k, rfl, hk, HI2, Lib.hid (hS.out.new_ (Grown.keep ⟨_, _, rfl⟩))⟩
            · rw [decide_eq_false hb4] at HB
              have HI2 := Lib.hid (show ∀ j (h : j < l.length), j < k + 1 → ¬ lexLt r l[j] from fun j h hj => by
                rcases HPm.out j h hj with rfl | h2
                · exact hb4
                · exact hI.out j h h2)
              clear hI hb4 HX HPm
              generalize l[k] = x at e0 e1 e2 e3 HB
              unfold Row.v at HB
              go_wp2_with fail
              go_quiet_grown (first | (go_at_call 29; refine Calls.grown_of (HB.out _)))
              go_wp2_with fail
              go_roundw
              case rel => exact ⟨k + 1, by omega, by go_num, HI2, Lib.hid (hS.out.new_ (Grown.keep ⟨_, _, rfl⟩))⟩
              case measure => simp [intOf]; omega
          · obtain rfl : k = l.length := by omega
            have hlz2 : ¬ (l.length : Int) < (l.length : Int) := by omega
            have hgd : decide ((l.length : Int) < (l.length : Int)) = false := decide_eq_false hlz2
            have HI2 := Lib.hid (insR_at r l l.length hk (fun j h _ => hI.out j h h) (fun h => by omega))
            clear hI
            go_wp2_with fail
            go_quiet (fail)
            go_wp2_with fail
            go_meet
            case rel => exact ⟨l.length, rfl, Nat.le_refl _, HI2, Lib.hid (hS.out.new_ ((Keep.refl No _).drewN _))⟩
      case rest =>
        clear H1
        obtain ⟨k, rfl, hk, HI, HS⟩ := hcut
        obtain ⟨A0, c0, eA, _, hR0⟩ := HS.out.rw_
        injection eA with eA _ ec
        subst eA
        subst ec
        have HR := Lib.hid hR0
        clear hR0
        have b0 := HS.out.bk.cell 0
        have b1 := HS.out.bk.cell 1
        have b2 := HS.out.bk.cell 2
        have b3 := HS.out.bk.cell 3
        simp only [List.getElem?_toArray, List.getElem?_cons_zero, List.getElem?_cons_succ] at b0 b1 b2 b3
        have htk : (l.take k).length = k := by rw [List.length_take]; omega
        have HTK := Lib.hid htk
        clear htk
        have hkz : (0 : Int) ≤ (k : Int) := by omega
        have hkl : (k : Int) ≤ (l.length : Int) := by omega
        go_upto_region 10 with (at_builtin; refine wpList_append_any _ rfl (.tmp 33) (.tmp 36) _ rfl w.heap.size 30 i0 _ 4 32 Tryz.underlying27 hi0 hz0 hz1 hz2 rfl (by omega) _ 0 [] rfl (own_empty _ 4 HS.out.kp.size) base A k c (rcells (l.take k)) rfl (Reads.new_ (rrows_take HR.out hk) ((Keep.refl No _).alloc _)) (rcells_one _) (by simp only [maxLen]; omega) (by omega) (by have := HS.out.kp.size; simp; omega) ?_; intro v2 w2 hown2 hg2 _; have H2 := Lib.hid (show ROwn w.heap.size w2 v2 (l.take k) ∧ Keep No wc w2 from ⟨by unfold ROwn; rw [HTK.out]; simpa using hown2, ((Keep.refl No wc).alloc _).grown hg2 (fun k e => .inr (by cases e; exact Nat.le_refl _))⟩); clear hown2 hg2)
        have HS2 := Lib.hid (HS.out.new_ H2.out.2)
        have b0 := HS2.out.bk.cell 0
        have b1 := HS2.out.bk.cell 1
        have b2 := HS2.out.bk.cell 2
        have b3 := HS2.out.bk.cell 3
        simp only [List.getElem?_toArray, List.getElem?_cons_zero, List.getElem?_cons_succ] at b0 b1 b2 b3
        have HO2 := Lib.hid (show w2.ownsRow w.heap.size 30 4 v2 k (rcells (l.take k)) from by have := H2.out.1; unfold ROwn at this; rwa [HTK.out] at this)
        go_upto_region 11 with (at_builtin; refine wpList_append_any _ rfl (.tmp 38) (.tmp 40) _ rfl w.heap.size 30 i0 _ 4 32 Tryz.underlying27 hi0 hz0 hz1 hz2 rfl (by omega) _ k _ rfl (own_keep HO2.out ((Keep.refl No _).alloc _) (fun _ _ x => x)) 0 _ 1 1 r.cells rfl (row_new r) (row_one r) (by simp only [maxLen]; omega) (by omega) (by have := HS2.out.kp.size; simp; omega) ?_; intro v3 w3 hown3 hg3 _; have H3 := Lib.hid (show w3.ownsRow w.heap.size 30 4 v3 (k + 1) (rcells (l.take k ++ [r])) ∧ Keep (fun b => v2.ownBlock = some b) w2 w3 from ⟨by rw [← rcells_push]; exact hown3, ((Keep.refl _ w2).alloc _).grown hg3 (fun k e => .inl e)⟩); clear hown3 hg3)
        have HK3 := Lib.hid (show Keep No w w3 from HS2.out.kp.trans H3.out.2 (fun b e => .inr (H2.out.1.lt b e).1))
        have HR3 := Lib.hid (H00.out.new_ HK3.out)
        go_wp2_with (at_builtin; refine wpList_append_any _ rfl (.tmp 42) (.tmp 45) _ rfl w.heap.size 30 i0 _ 4 32 Tryz.underlying27 hi0 hz0 hz1 hz2 rfl (by omega) _ (k + 1) _ rfl H3.out.1 base _ (l.length - k) (c - k) (rcells (l.drop k)) rfl (rrows_drop HR3.out hk hc) (rcells_one _) (by simp only [maxLen]; omega) (by omega) HK3.out.size ?_; intro v4 w4 hown4 hg4 _; have H4 := Lib.hid (show ROwn w.heap.size w4 v4 (insR r l) ∧ Keep No w w4 from ⟨insR_own HI.out hk hown4, HK3.out.trans ((Keep.refl _ w3).grown hg4 (fun k e => .inl e)) (fun b e => .inr (World.ownsRow.lt H3.out.1 b e).1)⟩); clear hown4 hg4)
        all_goals
          go_ret2
          exact ⟨_, rfl, H4.out.1.rin, H4.out.2⟩
  · rw [decide_eq_false hr] at HA
    rw [if_neg hr, if_neg hr]
    go_enter Tryz.func10, Tryz.ntmps10
    go_wp2_with fail
    generalize w.alloc (.cells #[.int .i64 r.a, .int .i64 r.b, .int .i64 r.c, .int .i64 r.l] 30) = w0 at *
    unfold Row.v at HA
    refine (HA.out w0).mono ?_
    rintro e w1 ⟨rfl, k1⟩
    have H1 := Lib.hid (H0.out.new_ k1)
    clear k1
    go_wp2_with fail
    go_ret2
    exact ⟨_, rfl, H1.out.rw_, H1.out.kp⟩

/-- Rows, learned one after another. -/
def sortL (l : List Row) : List Row := l.foldl learnL []
theorem insR_length (r : Row) : ∀ l : List Row, (insR r l).length = l.length + 1
  | [] => rfl
  | x :: l => by
    rw [insR]
    split
    · rfl
    · rw [List.length_cons, insR_length r l, List.length_cons]
theorem learnL_length (l : List Row) (r : Row) : (learnL l r).length ≤ l.length + 1 := by
  unfold learnL
  split
  · split
    · omega
    · rw [insR_length]; omega
  · omega
theorem sortL_push (l : List Row) (r : Row) : sortL (l ++ [r]) = learnL (sortL l) r := by simp [sortL]
theorem sortL_length : ∀ (l : List Row) (acc : List Row), (l.foldl learnL acc).length ≤ acc.length + l.length
  | [], _ => Nat.le_refl _
  | r :: l, acc => by
    have h1 := sortL_length l (learnL acc r)
    have h2 := learnL_length acc r
    rw [List.foldl_cons, List.length_cons]
    omega
theorem RIn.nil (base : Nat) (w : World) : RIn base w (.slice none 0 0) [] := ⟨none, 0, rfl, Nat.le_refl _, Reads.none_⟩

set_option maxHeartbeats 1000000 in
set_option maxRecDepth 100000 in
theorem rsorted_any {base : Nat} {w : World} {v : Value} {l : List Row} (h : RIn base w v l) (hb : base ≤ w.heap.size) (hmax : l.length ≤ 1000000) :
    Calls Tryz.prog 24 #[v] w fun e w' => ∃ v', e = .returned v' ∧ RIn base w' v' (sortL l) ∧ Keep No w w' := by
  obtain ⟨A, c, rfl, hc, hR⟩ := h
  have HR := Lib.hid hR
  clear hR
  go_enter Tryz.func24, Tryz.ntmps24
  go_wp2_with fail
  go_loopw [3, 4] (fun v3 v4 wr => ∃ k : Nat, k ≤ l.length ∧ v4 = .int .i64 k ∧ Hid (RIn base wr v3 (sortL (l.take k))) ∧ Hid (Keep No w wr)) (fun _ i _ => l.length - (intOf i).toNat)
  case atStart => exact ⟨0, Nat.zero_le _, rfl, Lib.hid (RIn.nil _ _), Lib.hid (Keep.refl _ _)⟩
  case round =>
    obtain ⟨k, hk, rfl, hS, hK⟩ := hrel
    by_cases hlt : k < l.length
    · obtain ⟨ad, rfl, _, e0, e1, e2, e3⟩ := (HR.out.new_ hK.out).at_ hlt
      have hex := Lib.hid (show sortL (l.take (k + 1)) = learnL (sortL (l.take k)) l[k] from by rw [← sortL_push, List.take_append_getElem hlt])
      have j0 : (0 : Int) ≤ (k : Int) := by omega
      have j1 : (k : Int) < (l.length : Int) := by omega
      have HL := Lib.hid (rlearn_any l[k] hS.out (Nat.le_trans hb hK.out.size) (by have := sortL_length (l.take k) []; unfold sortL; simp at this; omega))
      generalize l[k] = r at *
      unfold Row.v at HL
      by_cases hz : learnE (sortL (l.take k)) r = 0
      · have hzb : (learnE (sortL (l.take k)) r == 0) = true := by simp [hz]
        generalize learnE (sortL (l.take k)) r = en at *
        clear hz
        go_wp2_with (go_at_call 10; refine HL.out.mono ?_; rintro e w2 ⟨v2, rfl, h2, hk2⟩; have H2 := Lib.hid (show _ ∧ _ from ⟨h2, hk2⟩); clear h2 hk2)
        go_roundw
        case rel => exact ⟨k + 1, by omega, by go_num, Lib.hid (by rw [hex.out]; exact H2.out.1), Lib.hid (hK.out.trans H2.out.2 (fun _ x => x.elim))⟩
        case measure => simp [intOf]; omega
      · have hzb : (learnE (sortL (l.take k)) r == 0) = false := by rw [beq_eq_false_iff_ne]; exact hz
        have HN := Lib.hid (show learnL (sortL (l.take k)) r = sortL (l.take k) from by
          unfold learnE at hz
          unfold learnL
          split
          · next h1 =>
            rw [if_pos h1] at hz
            split
            · rfl
            · next h2 => rw [if_neg h2] at hz; exact absurd rfl hz
          · rfl)
        generalize learnE (sortL (l.take k)) r = en at *
        clear hz
        go_wp2_with (go_at_call 10; refine HL.out.mono ?_; rintro e w2 ⟨v2, rfl, h2, hk2⟩; have H2 := Lib.hid (show _ ∧ _ from ⟨h2, hk2⟩); clear h2 hk2)
        go_roundw
        case rel => exact ⟨k + 1, by omega, by go_num, Lib.hid (by rw [hex.out, HN.out]; exact hS.out.new_ H2.out.2), Lib.hid (hK.out.trans H2.out.2 (fun _ x => x.elim))⟩
        case measure => simp [intOf]; omega
    · obtain rfl : k = l.length := by omega
      have j1 : (l.length : Int) ≤ (l.length : Int) := Int.le_refl _
      rw [List.take_length] at hS
      have HS := Lib.hid hS.out
      clear hS
      go_wp2_with fail
      go_ret
      exact ⟨_, rfl, HS.out, hK.out⟩
end Go.Proofs.YtgabidgpngiecaaGreat

namespace Go.Proofs.YtgabidgpngiecaaGreat
open Go.RowKit Go.Proofs.YtgabidgpngiecaaGreatKit Go.Proofs.YtgabidgpngiecaaGreatPlain Go.Sort

set_option maxHeartbeats 1000000 in
set_option maxRecDepth 100000 in
theorem rfar_any {r x : Row} (hr : okRow r) (hx : okPt x) (w : World) : Calls Tryz.prog 69 #[r.v, ptV x] w fun e w' => e = .returned (.int .i64 (farF r x)) ∧ Grown w w' := by
  have mixed : Tryz.prog.follows .mixedOrders = true := by kernel_rfl
  obtain ⟨ra, rb, rc, rl⟩ := r
  obtain ⟨xa, xb, xc, xl⟩ := x
  obtain ⟨⟨a1, a2⟩, ⟨b1, b2⟩, ⟨c1, c2⟩, _⟩ := hr
  obtain ⟨⟨d1, d2⟩, ⟨e1, e2⟩, ⟨f1, f2⟩⟩ := hx
  simp only at a1 a2 b1 b2 c1 c2 d1 d2 e1 e2 f1 f2
  have s1 := sq_bd (u := ra) (v := xa) ⟨a1, a2⟩ ⟨d1, d2⟩
  have s2 := sq_bd (u := rb) (v := xb) ⟨b1, b2⟩ ⟨e1, e2⟩
  have s3 := sq_bd (u := rc) (v := xc) ⟨c1, c2⟩ ⟨f1, f2⟩
  have w1 := fit64 (n := (ra - xa) * (ra - xa)) (by omega) (by omega)
  have w2 := fit64 (n := (rb - xb) * (rb - xb)) (by omega) (by omega)
  have w3 := fit64 (n := (rc - xc) * (rc - xc)) (by omega) (by omega)
  have w4 := fit64 (n := (ra - xa) * (ra - xa) + (rb - xb) * (rb - xb)) (by omega) (by omega)
  have w5 := fit64 (n := (ra - xa) * (ra - xa) + (rb - xb) * (rb - xb) + (rc - xc) * (rc - xc)) (by omega) (by omega)
  have v1 := fit64 (n := ra - xa) (by omega) (by omega)
  have v2 := fit64 (n := rb - xb) (by omega) (by omega)
  have v3 := fit64 (n := rc - xc) (by omega) (by omega)
  have HG := Lib.hid (((Grown.refl w).alloc (.cells #[.int .i64 ra, .int .i64 rb, .int .i64 rc, .int .i64 rl] 30)).alloc (.cells #[.int .i64 xa, .int .i64 xb, .int .i64 xc] 28))
  have B0 := (Blk.new w 30 #[.int .i64 ra, .int .i64 rb, .int .i64 rc, .int .i64 rl]).alloc (.cells #[.int .i64 xa, .int .i64 xb, .int .i64 xc] 28)
  have f0 := B0.cell 0
  have g1 := B0.cell 1
  have g2 := B0.cell 2
  simp only [List.getElem?_toArray, List.getElem?_cons_zero, List.getElem?_cons_succ] at f0 g1 g2
  have B1 := Blk.new (w.alloc (.cells #[.int .i64 ra, .int .i64 rb, .int .i64 rc, .int .i64 rl] 30)) 28 #[.int .i64 xa, .int .i64 xb, .int .i64 xc]
  rw [show (w.alloc (.cells #[.int .i64 ra, .int .i64 rb, .int .i64 rc, .int .i64 rl] 30)).heap.size = w.heap.size + 1 by simp] at B1
  have h0 := B1.cell 0
  have h1 := B1.cell 1
  have h2 := B1.cell 2
  simp only [List.getElem?_toArray, List.getElem?_cons_zero, List.getElem?_cons_succ] at h0 h1 h2
  have HR := Lib.hid (show (ra - xa) * (ra - xa) + (rb - xb) * (rb - xb) + (rc - xc) * (rc - xc) = farF ⟨ra, rb, rc, rl⟩ ⟨xa, xb, xc, xl⟩ from rfl)
  clear B0 B1 s1 s2 s3 a1 a2 b1 b2 c1 c2 d1 d2 e1 e2 f1 f2
  unfold Row.v ptV
  go_enter Tryz.func69, Tryz.ntmps69
  go_wp2_with fail
  generalize (w.alloc (.cells #[.int .i64 ra, .int .i64 rb, .int .i64 rc, .int .i64 rl] 30)).alloc (.cells #[.int .i64 xa, .int .i64 xb, .int .i64 xc] 28) = wa at *
  refine wp_loop_rounds 4 ?_
  rw [rounds_succ]
  go_wp2_with fail
  go_quiet (fail)
  have f0 : (wa.drewN nq).cell? ⟨w.heap.size, 0, none⟩ = some (.int .i64 ra) := f0
  have g1 : (wa.drewN nq).cell? ⟨w.heap.size, 1, none⟩ = some (.int .i64 rb) := g1
  have g2 : (wa.drewN nq).cell? ⟨w.heap.size, 2, none⟩ = some (.int .i64 rc) := g2
  have h0 : (wa.drewN nq).cell? ⟨w.heap.size + 1, 0, none⟩ = some (.int .i64 xa) := h0
  have h1 : (wa.drewN nq).cell? ⟨w.heap.size + 1, 1, none⟩ = some (.int .i64 xb) := h1
  have h2 : (wa.drewN nq).cell? ⟨w.heap.size + 1, 2, none⟩ = some (.int .i64 xc) := h2
  have HG := Lib.hid (HG.out.drewN nq)
  generalize wa.drewN nq = wb at *
  go_wp2_with fail
  rw [rounds_succ]
  go_wp2_with fail
  go_quiet (fail)
  go_wp2_with fail
  rw [rounds_succ]
  go_wp2_with fail
  go_quiet (fail)
  go_wp2_with fail
  rw [rounds_succ]
  go_wp2_with fail
  go_ret
  exact ⟨ret_int HR.out, HG.out.drewN _⟩


/-! ### Plain: the nearest first -/
def nearer (x r s : Row) : Prop := farF r x < farF s x ∨ (farF r x = farF s x ∧ lexLt r s)
instance (x r s : Row) : Decidable (nearer x r s) := inferInstanceAs (Decidable (_ ∨ _))
theorem lex_trans {r s t : Row} (h1 : lexLt r s) (h2 : lexLt s t) : lexLt r t := by unfold lexLt at *; omega
theorem lex_irrefl (r : Row) : ¬ lexLt r r := by unfold lexLt; omega
theorem nearer_trans {x r s t : Row} (h1 : nearer x r s) (h2 : nearer x s t) : nearer x r t := by
  rcases h1 with h1 | ⟨h1, h3⟩ <;> rcases h2 with h2 | ⟨h2, h4⟩
  · exact .inl (by omega)
  · exact .inl (by omega)
  · exact .inl (by omega)
  · exact .inr ⟨by omega, lex_trans h3 h4⟩
theorem nearer_irrefl (x r : Row) : ¬ nearer x r r := fun h => by
  rcases h with h | ⟨_, h⟩
  · omega
  · exact lex_irrefl r h
theorem lex_asymm {r s : Row} (h1 : lexLt r s) : ¬ lexLt s r := fun h => lex_irrefl r (lex_trans h1 h)
/-! ### Near -/
structure NOrd (x : Row) (l left out : List Row) : Prop where
  pm : (out ++ left).Perm l
  srt : out.Pairwise (fun p q => ¬ nearer x q p)
  all : ∀ p ∈ out, ∀ z ∈ left, ¬ nearer x z p
theorem NOrd.step {x : Row} {l left out : List Row} (h : NOrd x l left out) {f : Nat} (hf : f < left.length) (hm : ∀ j (hj : j < left.length), ¬ nearer x left[j] left[f]) : NOrd x l (left.take f ++ left.drop (f + 1)) (out ++ [left[f]]) := by
  have e : left = left.take f ++ left[f] :: left.drop (f + 1) := by
    conv => lhs; rw [← List.take_append_drop f left, List.drop_eq_getElem_cons hf]
  have hsub : ∀ z ∈ left.take f ++ left.drop (f + 1), z ∈ left := fun z hz => by
    rcases List.mem_append.1 hz with hz | hz
    · exact List.mem_of_mem_take hz
    · exact List.mem_of_mem_drop hz
  have hmin : ∀ z ∈ left, ¬ nearer x z left[f] := fun z hz => by
    obtain ⟨j, hj, rfl⟩ := List.getElem_of_mem hz
    exact hm j hj
  refine ⟨?_, ?_, ?_⟩
  · refine List.Perm.trans ?_ h.pm
    rw [List.append_assoc]
    refine List.Perm.append_left out ?_
    conv => rhs; rw [e]
    show (left[f] :: (left.take f ++ left.drop (f + 1))).Perm _
    exact List.perm_middle.symm
  · rw [List.pairwise_append]
    refine ⟨h.srt, List.pairwise_singleton _ _, fun p hp q hq => ?_⟩
    rw [List.mem_singleton] at hq
    subst hq
    exact h.all p hp _ (List.getElem_mem hf)
  · intro p hp z hz
    rcases List.mem_append.1 hp with hp | hp
    · exact h.all p hp z (hsub z hz)
    · rw [List.mem_singleton] at hp
      subst hp
      exact hmin z (hsub z hz)
structure NSt (base : Nat) (w W : World) (xb : Nat) (x : Row) (A : Option Addr) (left : List Row) (ov : Value) (out : List Row) : Prop where
  le : RowsIn base W A left
  ou : ROwn w.heap.size W ov out
  sep : ∀ ad, A = some ad → 0 < left.length → ov.ownBlock ≠ some ad.block
  bx : Blk W xb 28 #[.int .i64 x.a, .int .i64 x.b, .int .i64 x.c]
  kp : Keep No w W
section
variable {base : Nat} {w W W' : World} {xb : Nat} {x : Row} {A : Option Addr} {left : List Row} {ov ov' : Value} {out : List Row}
theorem rows_keep_ne {S : Nat → Prop} (h : RowsIn base W A left) (hk : Keep S W W') (hn : ∀ ad, A = some ad → 0 < left.length → ¬ S ad.block) : RowsIn base W' A left := by
  refine ⟨h.1, fun h0 => ?_⟩
  obtain ⟨ad, e, hb, hc⟩ := h.2 h0
  have hne := hn ad e h0
  exact ⟨ad, e, hb.same (hk.block _ hb.lt hne) hk.size, fun j u hu => (hk.cell (p := ad.add j) (by rw [block_of_add]; exact hb.lt) (by rw [block_of_add]; exact hne)).trans (hc j u hu)⟩
theorem NSt.new_ (h : NSt base w W xb x A left ov out) (hk : Keep No W W') : NSt base w W' xb x A left ov out := ⟨h.le.new_ hk, h.ou.keep hk (fun _ _ x => x), h.sep, h.bx.keep hk (fun x => x), h.kp.trans hk (fun _ x => x.elim)⟩
theorem NSt.row (h : NSt base w W xb x A left ov out) {i : Nat} (hi : i < left.length) : ∃ ad, A = some ad ∧ ∀ n os, (grow (W.drewN n) os).cell? (ad.add (i * 4)) = some (.int .i64 left[i].a) ∧ (grow (W.drewN n) os).cell? ⟨(ad.add (i * 4)).block, (ad.add (i * 4)).off + 1, none⟩ = some (.int .i64 left[i].b) ∧ (grow (W.drewN n) os).cell? ⟨(ad.add (i * 4)).block, (ad.add (i * 4)).off + 2, none⟩ = some (.int .i64 left[i].c) ∧ (grow (W.drewN n) os).cell? ⟨(ad.add (i * 4)).block, (ad.add (i * 4)).off + 3, none⟩ = some (.int .i64 left[i].l) := by
  obtain ⟨ad, e, _⟩ := h.le.at_ hi
  refine ⟨ad, e, fun n os => ?_⟩
  obtain ⟨ad', e', _, h1, h2, h3, h4⟩ := (h.le.new_ (Grown.keep ⟨n, os, rfl⟩ : Keep No W (grow (W.drewN n) os))).at_ hi
  rw [e] at e'
  injection e' with e'
  subst e'
  exact ⟨h1, h2, h3, h4⟩
theorem NSt.xc (h : NSt base w W xb x A left ov out) : ∀ n os, (grow (W.drewN n) os).cell? ⟨xb, 0, none⟩ = some (.int .i64 x.a) ∧ (grow (W.drewN n) os).cell? ⟨xb, 1, none⟩ = some (.int .i64 x.b) ∧ (grow (W.drewN n) os).cell? ⟨xb, 2, none⟩ = some (.int .i64 x.c) := fun n os =>
  have hb := h.bx.keep (Grown.keep ⟨n, os, rfl⟩ : Keep No W (grow (W.drewN n) os)) (fun x => x)
  ⟨hb.cell 0, hb.cell 1, hb.cell 2⟩
theorem NSt.push {r : Row} {o : Obj} (h : NSt base w W xb x A left ov out) (ho : W'.ownsRow w.heap.size 30 4 ov' (out.length + 1) (rcells out ++ r.cells)) (hg : (W.alloc o).grownBy W' ov.ownBlock) (hat : ov'.ownBlock = ov.ownBlock ∨ ov'.ownBlock = some (W.alloc o).heap.size) : NSt base w W' xb x A left ov' (out ++ [r]) := by
  have hk : Keep (fun k => ov.ownBlock = some k) W W' := ((Keep.refl _ W).alloc o).grown hg (fun k e => .inl e)
  refine ⟨rows_keep_ne h.le hk (fun ad e h0 e2 => h.sep ad e h0 e2), ?_, fun ad e h0 e2 => ?_, h.bx.keep hk (fun e => own_blk_ne h.ou h.bx (by decide) e), h.kp.trans hk (fun k e => .inr (h.ou.lt k e).1)⟩
  · unfold ROwn
    rw [← rcells_push, List.length_append]
    exact ho
  · rcases hat with hat | hat
    · rw [hat] at e2
      exact h.sep ad e h0 e2
    · rw [hat] at e2
      obtain ⟨ad', e', hb, _⟩ := h.le.2 h0
      rw [e] at e'
      injection e' with e'
      subst e'
      have := hb.lt
      simp at e2
      omega
theorem NSt.fresh {A' : Option Addr} {c' : Nat} {left' : List Row} (h : NSt base w W xb x A left ov out) (ho : ROwn W.heap.size W' (.slice A' left'.length c') left') (hk : Keep No W W') : NSt base w W' xb x A' left' ov out := by
  refine ⟨Reads.of_own ho rfl, h.ou.keep hk (fun _ _ x => x), fun ad e h0 e2 => ?_, h.bx.keep hk (fun x => x), h.kp.trans hk (fun _ x => x.elim)⟩
  have h1 := (h.ou.lt _ e2).2
  rcases ho.2 with ⟨h2, h3⟩ | ⟨g, cap, cur, h2, h3, _⟩
  · omega
  · injection h2 with h2 _ _
    rw [e] at h2
    injection h2 with h2
    subst h2
    exact absurd h1 (Nat.not_lt.2 h3)
end
theorem cut_own {B k : Nat} {w : World} {v : Value} {l : List Row} (hk : k < l.length) (ho : w.ownsRow B 30 4 v (k + (l.length - (k + 1))) (rcells (l.take k) ++ rcells (l.drop (k + 1)))) : ROwn B w v (l.take k ++ l.drop (k + 1)) := by
  have hn : (l.take k ++ l.drop (k + 1)).length = k + (l.length - (k + 1)) := by simp; omega
  unfold ROwn
  rw [hn, rcells_append]
  exact ho
theorem row_hi {A : Option Addr} {n c f : Nat} (hf : f ≤ c) (W : World) : (Instr.sliceAt 27 (.slice A n c) none (some (.int .i64 (f : Int))) none).run Tryz.prog W = .ok (.slice A f c) W := by
  have e2 : Tryz.prog.elem 27 = 30 := by kernel_rfl
  rw [run_sliceAt_slice (t := 27) (h := by kernel_rfl), run_slice_h (P := Tryz.prog) (w := W) 27 A n c (by kernel_rfl) .i64 (f : Int) (by omega) (by omega), e2, Tryz.sizeOf30]
  cases A <;> simp [Result.andThen, sliced, Addr.add]
theorem row_lo {base : Nat} {w : World} {A : Option Addr} {l : List Row} {c f : Nat} (h : RowsIn base w A l) (hf : f < l.length) (hc : l.length ≤ c) :
    ∃ A', (∀ W, (Instr.sliceAt 27 (.slice A l.length c) (some (.int .i64 ((f : Int) + 1))) none none).run Tryz.prog W = .ok (.slice A' (l.length - (f + 1)) (c - (f + 1))) W) ∧ Reads base w 30 4 A' (l.length - (f + 1)) (rcells (l.drop (f + 1))) := by
  refine ⟨_, fun W => ?_, rrows_drop h (by omega) hc⟩
  have e2 : Tryz.prog.elem 27 = 30 := by kernel_rfl
  rw [run_sliceAt_slice (t := 27) (h := by kernel_rfl), run_slice_l (P := Tryz.prog) (w := W) 27 A l.length c (by kernel_rfl) .i64 ((f : Int) + 1) (by omega) (by omega), e2, Tryz.sizeOf30]
  simp only [Result.andThen, sliced, show ((f : Int) + 1).toNat = f + 1 from by omega]
theorem own_empty_at {B g : Nat} {w : World} (hg : g = w.heap.size) (t : TypeId) (size : Nat) (hB : B ≤ w.heap.size) : (w.alloc (.cells #[] t)).ownsRow B t size (.slice (some ⟨g, 0, none⟩) 0 0) 0 [] := by
  subst hg
  exact own_empty t size hB

set_option maxHeartbeats 1000000 in
set_option maxRecDepth 100000 in
theorem rnear_any {base : Nat} {w : World} {v : Value} {l : List Row} (x : Row) (h : RIn base w v l) (_hb : base ≤ w.heap.size) (hmax : l.length ≤ 1000) (hok : ∀ r ∈ l, okRow r) (hx : okPt x) :
    Calls Tryz.prog 52 #[v, ptV x] w fun e w' => ∃ v' N, e = .returned v' ∧ N.Perm l ∧ N.Pairwise (fun p q => ¬ nearer x q p) ∧ ROwn w.heap.size w' v' N ∧ Keep No w w' := by
  have mixed : Tryz.prog.follows .mixedOrders = true := by kernel_rfl
  obtain ⟨i0, hi0, hz0, hz1, hz2⟩ := info_parts info_row
  obtain ⟨A, c, rfl, hc, hR⟩ := h
  have HR := Lib.hid hR
  have HB := Lib.hid (Blk.new w 28 #[.int .i64 x.a, .int .i64 x.b, .int .i64 x.c])
  have HX := Lib.hid hx
  have HOK := Lib.hid hok
  clear hR hok hx
  have HK0 := Lib.hid ((Keep.refl No w).alloc (.cells #[.int .i64 x.a, .int .i64 x.b, .int .i64 x.c] 28))
  unfold ptV
  go_enter Tryz.func52, Tryz.ntmps52
  go_upto_region 2 with (at_builtin; go_loud (refine wpList_append_any _ rfl (.tmp 12) (.tmp 13) _ rfl w.heap.size 30 i0 _ 4 32 Tryz.underlying27 hi0 hz0 hz1 hz2 rfl (by omega) _ 0 [] rfl (own_empty_at (by simp) _ 4 HK0.out.size) base A l.length c (rcells l) rfl (Reads.new_ HR.out ((((Keep.refl No w).alloc _).alloc _))) (rcells_one _) (by simp only [maxLen]; omega) (by omega) (by simp; omega) ?_; intro v2 w2 hown2 hg2 _; have H2 := Lib.hid (show w2.ownsRow w.heap.size 30 4 v2 l.length (rcells l) ∧ Keep No (w.alloc (.cells #[.int .i64 x.a, .int .i64 x.b, .int .i64 x.c] 28)) w2 from ⟨by simpa using hown2, ((Keep.refl No _).alloc _).grown hg2 (fun k e => .inr (by cases e; simp))⟩); clear hown2 hg2))
  have hsh : ∃ A2 c2, v2 = .slice A2 l.length c2 ∧ l.length ≤ c2 := own_shape H2.out.1
  obtain ⟨A2, c2, rfl, hc2⟩ := hsh
  have H0 := Lib.hid (show NSt base w w2 w.heap.size x A2 l (.slice none 0 0) [] from ⟨Reads.of_own H2.out.1 rfl, World.ownsRow_nil _ _ _ _, fun ad _ _ e => (by cases e), HB.out.keep H2.out.2 (fun x => x), HK0.out.trans H2.out.2 (fun _ x => x.elim)⟩)
  have HO0 := Lib.hid (show NOrd x l l [] from ⟨List.Perm.refl _, List.Pairwise.nil, fun _ h => by cases h⟩)
  clear H2 HB HK0 HR
  go_wp2_with fail
  go_loopg [5, 6] l.length (fun kx s5 s6 wr => ∃ (B : Option Addr) (d : Nat) (left out : List Row), s5 = .slice B left.length d ∧ left.length ≤ d ∧ left.length ≤ kx ∧ left.length ≤ 1000 ∧ Hid (NSt base w wr w.heap.size x B left s6 out) ∧ Hid (NOrd x l left out))
  case atStart => exact ⟨A2, c2, l, [], rfl, hc2, Nat.le_refl _, hmax, H0, HO0⟩
  case round =>
    clear H0 HO0
    obtain ⟨B, d, left, out, rfl, hd, hkx, hl1, HS, HO⟩ := hrel
    by_cases hlt : 0 < left.length
    · have hlz : (0 : Int) < (left.length : Int) := by omega
      have hgd : decide ((0 : Int) < (left.length : Int)) = true := decide_eq_true hlz
      have HOL := Lib.hid (show ∀ r ∈ left, okRow r from fun r hr => HOK.out r (HO.out.pm.mem_iff.1 (List.mem_append_right _ hr)))
      go_wp2_with fail
      go_loopg [7, 8] left.length (fun ky s7 s8 wq => ∃ f i : Nat, s7 = .int .i64 f ∧ s8 = .int .i64 i ∧ f < i ∧ f < left.length ∧ i ≤ left.length ∧ left.length ≤ i + ky ∧ Hid (∀ j (hj : j < left.length) (hf : f < left.length), j < i → ¬ nearer x left[j] left[f]) ∧ Hid (NSt base w wq w.heap.size x B left u6 out))
      case atStart => exact ⟨0, 1, rfl, rfl, by omega, hlt, by omega, by omega, Lib.hid (fun j hj hf h => by obtain rfl : j = 0 := (by omega); exact nearer_irrefl x _), HS⟩
      case round =>
        clear HS
        obtain ⟨f, i, rfl, rfl, hfi, hfl, hil, hky, HM, HS⟩ := hrel
        have hf0 : (0 : Int) ≤ (f : Int) := by omega
        have hfz : (f : Int) < (left.length : Int) := by omega
        by_cases hlt2 : i < left.length
        · have hiz : (i : Int) < (left.length : Int) := by omega
          have hi0 : (0 : Int) ≤ (i : Int) := by omega
          have HPi := Lib.hid (HOL.out _ (List.getElem_mem hlt2))
          have HPf := Lib.hid (HOL.out _ (List.getElem_mem hfl))
          have HF1 := Lib.hid (fun W => rfar_any HPi.out HX.out W)
          have HF2 := Lib.hid (fun W => rfar_any HPf.out HX.out W)
          have HBf := Lib.hid (fun W => before_any left[i] left[f] W)
          obtain ⟨ad, rfl, hr1⟩ := HS.out.row hlt2
          have a0 := fun n os => (hr1 n os).1
          have a1 := fun n os => (hr1 n os).2.1
          have a2 := fun n os => (hr1 n os).2.2.1
          have a3 := fun n os => (hr1 n os).2.2.2
          have hx1 := HS.out.xc
          have x0 := fun n os => (hx1 n os).1
          have x1 := fun n os => (hx1 n os).2.1
          have x2 := fun n os => (hx1 n os).2.2
          clear hr1 hx1
          generalize hri : left[i] = ri at a0 a1 a2 a3 HF1 HBf HPi
          generalize hrf : left[f] = rf at HF2 HBf HPf
          have HRI := Lib.hid (show left[i] = ri ∧ left[f] = rf from ⟨hri, hrf⟩)
          clear hri hrf
          unfold Row.v ptV at HF1 HF2
          unfold Row.v at HBf
          go_wp2_with fail
          go_quiet_grown (first | (go_at_call 69; refine Calls.grown_of (HF1.out _)))
          have HS5 := Lib.hid (HS.out.new_ (Grown.keep ⟨nq, osq, rfl⟩))
          clear a0 a1 a2 a3 x0 x1 x2 HS HF1
          generalize grow (wr.drewN nq) osq = w5 at *
          clear nq osq
          obtain ⟨ad', ead, hr2⟩ := HS5.out.row hfl
          injection ead with ead
          subst ead
          rw [HRI.out.2] at hr2
          have b0 := fun n os => (hr2 n os).1
          have b1 := fun n os => (hr2 n os).2.1
          have b2 := fun n os => (hr2 n os).2.2.1
          have b3 := fun n os => (hr2 n os).2.2.2
          have hx1 := HS5.out.xc
          have x0 := fun n os => (hx1 n os).1
          have x1 := fun n os => (hx1 n os).2.1
          have x2 := fun n os => (hx1 n os).2.2
          clear hr2 hx1
          go_wp2_with fail
          go_quiet_grown (first | (go_at_call 69; refine Calls.grown_of (HF2.out _)))
          have HS6 := Lib.hid (HS5.out.new_ (Grown.keep ⟨nq, osq, rfl⟩))
          clear b0 b1 b2 b3 x0 x1 x2 HS5 HF2
          generalize grow (w5.drewN nq) osq = w6 at *
          clear nq osq
          obtain ⟨ad', ead, hr1⟩ := HS6.out.row hlt2
          injection ead with ead
          subst ead
          rw [HRI.out.1] at hr1
          obtain ⟨ad', ead, hr2⟩ := HS6.out.row hfl
          injection ead with ead
          subst ead
          rw [HRI.out.2] at hr2
          have a0 := fun n os => (hr1 n os).1
          have a1 := fun n os => (hr1 n os).2.1
          have a2 := fun n os => (hr1 n os).2.2.1
          have a3 := fun n os => (hr1 n os).2.2.2
          have b0 := fun n os => (hr2 n os).1
          have b1 := fun n os => (hr2 n os).2.1
          have b2 := fun n os => (hr2 n os).2.2.1
          have b3 := fun n os => (hr2 n os).2.2.2
          clear hr1 hr2
          have HD := Lib.hid (show nearer x ri rf ↔ farF ri x < farF rf x ∨ (farF ri x = farF rf x ∧ lexLt ri rf) from Iff.rfl)
          generalize farF ri x = fi at *
          generalize farF rf x = ff at *
          generalize hlx : decide (lexLt ri rf) = lx at HBf
          have HLX := Lib.hid hlx
          clear hlx
          go_wp2_with fail
          go_quiet_grown (first | (go_at_call 29; refine Calls.grown_of (HBf.out _)))
          have HS7 := Lib.hid (HS6.out.new_ (Grown.keep ⟨nq, osq, rfl⟩))
          clear a0 a1 a2 a3 b0 b1 b2 b3 HS6 HBf
          generalize grow (w6.drewN nq) osq = w7 at *
          clear nq osq
          by_cases hn : nearer x ri rf
          · have HM2 := Lib.hid (show ∀ j (hj : j < left.length) (hi : i < left.length), j < i + 1 → ¬ nearer x left[j] left[i] from fun j hj hi hji hne => by
              rw [HRI.out.1] at hne
              rcases Nat.lt_or_eq_of_le (Nat.le_of_lt_succ hji) with h2 | rfl
              · have := HM.out j hj hfl h2
                rw [HRI.out.2] at this
                exact this (nearer_trans hne hn)
              · rw [HRI.out.1] at hne
                exact nearer_irrefl x _ hne)
            have hcase := HD.out.1 hn
            have HN := Lib.hid hn
            clear hn
            by_cases h1 : fi < ff
            · have h1b : decide (fi < ff) = true := decide_eq_true h1
              go_wp2_with fail
              go_roundg (left.length - (i + 1))
              case measure => omega
              case rel => exact ⟨i, i + 1, rfl, by go_num, by omega, hlt2, by omega, by omega, HM2, HS7⟩
            · have h1b : decide (fi < ff) = false := decide_eq_false h1
              obtain ⟨rfl, h3⟩ := hcase.resolve_left h1
              obtain rfl : lx = true := by rw [← HLX.out]; exact decide_eq_true h3
              go_wp2_with fail
              go_roundg (left.length - (i + 1))
              case measure => omega
              case rel => exact ⟨i, i + 1, rfl, by go_num, by omega, hlt2, by omega, by omega, HM2, HS7⟩
          · have HM2 := Lib.hid (show ∀ j (hj : j < left.length) (hf : f < left.length), j < i + 1 → ¬ nearer x left[j] left[f] from fun j hj hf hji => by
              rcases Nat.lt_or_eq_of_le (Nat.le_of_lt_succ hji) with h2 | rfl
              · exact HM.out j hj hf h2
              · rw [HRI.out.1, HRI.out.2]; exact hn)
            have h1 : ¬ fi < ff := fun h => hn (HD.out.2 (.inl h))
            have h1b : decide (fi < ff) = false := decide_eq_false h1
            have HNE := Lib.hid hn
            by_cases h2 : fi = ff
            · obtain rfl : lx = false := by
                rw [← HLX.out]
                exact decide_eq_false fun h3 => hn (HD.out.2 (.inr ⟨h2, h3⟩))
              subst h2
              clear hn
              go_wp2_with fail
              go_roundg (left.length - (i + 1))
              case measure => omega
              case rel => exact ⟨f, i + 1, rfl, by go_num, by omega, hfl, by omega, by omega, HM2, HS7⟩
            · have h2b : (fi == ff) = false := by rw [beq_eq_false_iff_ne]; exact h2
              clear hn h2
              go_wp2_with fail
              go_roundg (left.length - (i + 1))
              case measure => omega
              case rel => exact ⟨f, i + 1, rfl, by go_num, by omega, hfl, by omega, by omega, HM2, HS7⟩
        · obtain rfl : i = left.length := by omega
          have hiz : ¬ (left.length : Int) < (left.length : Int) := by omega
          obtain ⟨ad, rfl, _, e0, e1, e2, e3⟩ := HS.out.le.at_ hfl
          have HO2 := Lib.hid (HO.out.step hfl (fun j hj => HM.out j hj hfl hj))
          have HOL2 := Lib.hid (show out.length ≤ 1000 from by have := HO.out.pm.length_eq; rw [List.length_append] at this; omega)
          generalize left[f] = rf at *
          go_upto_region 14 with (at_builtin; refine wpList_append_any _ rfl (.tmp 57) (.tmp 62) _ rfl w.heap.size 30 i0 _ 4 32 Tryz.underlying27 hi0 hz0 hz1 hz2 rfl (by omega) _ _ _ rfl (HS.out.ou.keep ((Keep.refl No _).alloc _) (fun _ _ x => x)) 0 _ 1 1 rf.cells rfl (row_new rf) (row_one rf) (by have := HOL2.out; simp only [maxLen]; omega) (by have := HOL2.out; omega) (by have := HS.out.kp.size; simp; omega) ?_; intro v3 w3 hown3 hg3 hat3; have H3 := Lib.hid (HS.out.push hown3 hg3 hat3); clear hown3 hg3 hat3)
          clear e0 e1 e2 e3 HS HM
          generalize hB : some ad = B at *
          clear hB
          obtain ⟨A5, hs5, HR5⟩ := row_lo H3.out.le hfl hd
          have hs4 := row_hi (A := B) (n := left.length) (c := d) (f := f) (by omega)
          have HR4 := Lib.hid (rrows_take H3.out.le (Nat.le_of_lt hfl))
          have HR5 := Lib.hid HR5
          have hkw1 : Keep No w3 (w3.alloc (.cells #[] 30)).drew := ((Keep.refl No w3).alloc _).drew
          have hw1 : IntKind.i64.wrap ((f : Int) + 1) = (f : Int) + 1 := IntWalk.i64_in _ ⟨by omega, by omega⟩
          go_wp2_with fail
          have hkw0 : Keep No w3 w3.drew := (Keep.refl No w3).drew
          go_region_held3 (fun W => Keep No w3 W)
            (first
              | (with_reducible exact hkw0)
              | (with_reducible exact hkw1)
              | (with_reducible exact H4.out.2)
              | (with_reducible exact H5.out.2)
              | (with_reducible refine Keep.alloc ?_ _; with_reducible assumption)
              | fail)
            (first
              | (refine step_append_any _ (by rfl) _ _ _ (by rfl) w3.heap.size 30 i0 _ 4 32 Tryz.underlying27 hi0 hz0 hz1 hz2 rfl (by omega) _ 0 [] (by rfl) (own_keep (own_empty_at (by simp) _ 4 (Nat.le_refl _)) ((Keep.refl No _).drew) (fun _ _ x => x)) base B f d _ (by rfl) (Reads.new_ HR4.out hkw1) (rcells_one _) (by simp only [maxLen]; omega) (by omega) (by simp) ?_; intro v4 w4 hown4 hg4 _; have H4 := Lib.hid (show w4.ownsRow w3.heap.size 30 4 v4 f (rcells (left.take f)) ∧ Keep No w3 w4 from ⟨by simpa using hown4, hkw1.grown hg4 (fun k e => .inr (by cases e; simp))⟩); clear hown4 hg4)
              | (refine step_append_any _ (by rfl) _ _ _ (by rfl) w3.heap.size 30 i0 _ 4 32 Tryz.underlying27 hi0 hz0 hz1 hz2 rfl (by omega) _ f _ (by rfl) H4.out.1 base A5 (left.length - (f + 1)) (d - (f + 1)) _ (by rfl) (Reads.new_ HR5.out H4.out.2) (rcells_one _) (by simp only [maxLen]; omega) (by omega) H4.out.2.size ?_; intro v5 w5 hown5 hg5 _; have H5 := Lib.hid (show ROwn w3.heap.size w5 v5 (left.take f ++ left.drop (f + 1)) ∧ Keep No w3 w5 from ⟨cut_own hfl hown5, H4.out.2.trans ((Keep.refl _ w4).grown hg5 (fun k e => .inl e)) (fun b e => .inr (World.ownsRow.lt H4.out.1 b e).1)⟩); clear hown5 hg5)
              | fail)
          have hsh5 : ∃ A6 c6, v5 = .slice A6 (left.take f ++ left.drop (f + 1)).length c6 ∧ (left.take f ++ left.drop (f + 1)).length ≤ c6 := own_shape H5.out.1
          obtain ⟨A6, c6, rfl, hc6⟩ := hsh5
          have HS8 := Lib.hid (H3.out.fresh H5.out.1 H5.out.2)
          have hle6 : (left.take f ++ left.drop (f + 1)).length < left.length := by simp; omega
          clear hs4 hs5 HR4 HR5 H3 H4 H5
          go_wp2_with fail
          go_roundg ((left.take f ++ left.drop (f + 1)).length)
          case measure => omega
          case rel => exact ⟨A6, c6, _, _, rfl, hc6, Nat.le_refl _, by omega, HS8, HO2⟩
    · obtain rfl : left = [] := List.eq_nil_of_length_eq_zero (by omega)
      have hgd : decide ((0 : Int) < 0) = false := rfl
      have HE := Lib.hid (show out.Perm l ∧ out.Pairwise (fun p q => ¬ nearer x q p) from ⟨by have := HO.out.pm; simpa using this, HO.out.srt⟩)
      have HF := Lib.hid (show ROwn w.heap.size wr u6 out ∧ Keep No w wr from ⟨HS.out.ou, HS.out.kp⟩)
      clear HS HO
      go_wp2_with fail
      go_ret
      exact ⟨_, out, rfl, HE.out.1, HE.out.2, HF.out.1, HF.out.2⟩
end Go.Proofs.YtgabidgpngiecaaGreat
