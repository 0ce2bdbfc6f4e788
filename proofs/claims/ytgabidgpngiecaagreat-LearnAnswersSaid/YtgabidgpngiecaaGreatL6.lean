/- Contracts of learn's sums: add. Conditions: each names its own. -/
import Derived.Test.YtgabidgpngiecaaGreatL1
import Derived.BigQuiet
namespace Go.Proofs.YtgabidgpngiecaaGreat
open Go.RowKit Go.Proofs.YtgabidgpngiecaaGreatKit Go.Proofs.YtgabidgpngiecaaGreatPlain

theorem fit64 {n : Int} (h1 : -4000000000000000000 ≤ n) (h2 : n ≤ 4000000000000000000) : IntKind.i64.wrap n = n := IntWalk.i64_in n ⟨by omega, by omega⟩
theorem mul_bd {u v U V : Int} (hu : -U ≤ u ∧ u ≤ U) (hv : -V ≤ v ∧ v ≤ V) : -(U * V) ≤ u * v ∧ u * v ≤ U * V := by
  have h1 := Int.mul_nonneg (show 0 ≤ U - u by omega) (show 0 ≤ V + v by omega)
  have h2 := Int.mul_nonneg (show 0 ≤ U + u by omega) (show 0 ≤ V - v by omega)
  have h3 := Int.mul_nonneg (show 0 ≤ U - u by omega) (show 0 ≤ V - v by omega)
  have h4 := Int.mul_nonneg (show 0 ≤ U + u by omega) (show 0 ≤ V + v by omega)
  have e1 : (U - u) * (V + v) + (U + u) * (V - v) = 2 * (U * V) - 2 * (u * v) := by grind
  have e2 : (U - u) * (V - v) + (U + u) * (V + v) = 2 * (U * V) + 2 * (u * v) := by grind
  omega
def Mid (n : Int) : Prop := -1000000000000000 ≤ n ∧ n ≤ 1000000000000000

/-- Block g holds sums. -/
def Sm (w : World) (g by_ of_ : Nat) (n x y xx xy : Int) : Prop := Blk w g 79 #[.int .i64 (by_ : Nat), .int .i64 (of_ : Nat), .int .i64 n, .int .i64 x, .int .i64 y, .int .i64 xx, .int .i64 xy]

set_option maxHeartbeats 2000000 in
set_option maxRecDepth 100000 in
theorem add_any {w : World} {g by_ of_ : Nat} {n x y xx xy : Int} (r : Row) (t : Nat) (h : Sm w g by_ of_ n x y xx xy) (hb : by_ < 3) (ho : of_ < 3)
    (hr : okRow r) (ht : t ≤ 500) (b1 : Mid n) (b2 : Mid x) (b3 : Mid y) (b4 : Mid xx) (b5 : Mid xy) :
    Calls Tryz.prog 123 #[.pointer (some ⟨g, 0, none⟩), r.v, .int .i64 (t : Nat)] w fun e w' =>
      e = .returned (.tuple #[]) ∧ Sm w' g by_ of_ (n + t) (x + t * r.x by_) (y + t * r.x of_) (xx + t * r.x by_ * r.x by_) (xy + t * r.x by_ * r.x of_) ∧ Keep (fun b => b = g) w w' := by
  have hx := hr.x by_
  have hy := hr.x of_
  have B0 := (Blk.new w 30 #[.int .i64 r.a, .int .i64 r.b, .int .i64 r.c, .int .i64 r.l])
  have hg := h.lt
  have h1 := Blk.alloc h (.cells #[.int .i64 r.a, .int .i64 r.b, .int .i64 r.c, .int .i64 r.l] 30)
  have k0 := (Keep.refl (fun b => b = g) w).alloc (.cells #[.int .i64 r.a, .int .i64 r.b, .int .i64 r.c, .int .i64 r.l] 30)
  have c1 : (w.alloc (.cells #[.int .i64 r.a, .int .i64 r.b, .int .i64 r.c, .int .i64 r.l] 30)).cell? ⟨w.heap.size, by_, none⟩ = some (.int .i64 (r.x by_)) := by
    rw [B0.cell]
    unfold Row.x
    rcases (show by_ = 0 ∨ by_ = 1 ∨ by_ = 2 by omega) with rfl | rfl | rfl <;> rfl
  have c2 : (w.alloc (.cells #[.int .i64 r.a, .int .i64 r.b, .int .i64 r.c, .int .i64 r.l] 30)).cell? ⟨w.heap.size, of_, none⟩ = some (.int .i64 (r.x of_)) := by
    rw [B0.cell]
    unfold Row.x
    rcases (show of_ = 0 ∨ of_ = 1 ∨ of_ = 2 by omega) with rfl | rfl | rfl <;> rfl
  generalize r.x by_ = a at *
  generalize r.x of_ = b at *
  unfold Mid at b1 b2 b3 b4 b5
  have m1 := mul_bd (u := (t : Int)) (v := a) (U := 500) (V := 1000) (by omega) hx
  have m2 := mul_bd (u := (t : Int)) (v := b) (U := 500) (V := 1000) (by omega) hy
  have m3 := mul_bd (U := 500000) (V := 1000) m1 hx
  have m4 := mul_bd (U := 500000) (V := 1000) m1 hy
  have e1 := fit64 (n := n + t) (by omega) (by omega)
  have e2 := fit64 (n := (t : Int) * a) (by omega) (by omega)
  have e3 := fit64 (n := (t : Int) * b) (by omega) (by omega)
  have e4 := fit64 (n := (t : Int) * a * a) (by omega) (by omega)
  have e5 := fit64 (n := (t : Int) * a * b) (by omega) (by omega)
  have e6 := fit64 (n := x + (t : Int) * a) (by omega) (by omega)
  have e7 := fit64 (n := y + (t : Int) * b) (by omega) (by omega)
  have e8 := fit64 (n := xx + (t : Int) * a * a) (by omega) (by omega)
  have e9 := fit64 (n := xy + (t : Int) * a * b) (by omega) (by omega)
  clear m1 m2 m3 m4 b1 b2 b3 b4 b5 hx hy ht
  have f0 := h1.cell 0
  have f1 := h1.cell 1
  have f2 := h1.cell 2
  have f3 := h1.cell 3
  have f4 := h1.cell 4
  have f5 := h1.cell 5
  have f6 := h1.cell 6
  have z2 := h1.frozen 2
  have z3 := h1.frozen 3
  have z4 := h1.frozen 4
  have z5 := h1.frozen 5
  have z6 := h1.frozen 6
  simp only [List.getElem?_toArray, List.getElem?_cons_zero, List.getElem?_cons_succ] at f0 f1 f2 f3 f4 f5 f6
  have i0 : (0 : Int) ≤ (by_ : Int) := by omega
  have i1 : (by_ : Int) < 3 := by omega
  have j0 : (0 : Int) ≤ (of_ : Int) := by omega
  have j1 : (of_ : Int) < 3 := by omega
  have q1 : decide ((by_ : Int) < 0) = false := decide_eq_false (by omega)
  have q2 : decide ((3 : Int) ≤ (by_ : Int)) = false := decide_eq_false (by omega)
  have q3 : decide ((of_ : Int) < 0) = false := decide_eq_false (by omega)
  have q4 : decide ((3 : Int) ≤ (of_ : Int)) = false := decide_eq_false (by omega)
  have HH := Lib.hid h1
  have HK := Lib.hid k0
  clear h h1 k0 B0
  unfold Row.v
  go_enter Tryz.func123, Tryz.ntmps123
  go_wp2_with fail
  generalize w.alloc (.cells #[.int .i64 r.a, .int .i64 r.b, .int .i64 r.c, .int .i64 r.l] 30) = w0 at *
  go_quiet (fail)
  go_wp2
  go_end0
  exact ⟨rfl, (((((HH.out.drewN nq).set_ 2 (.int .i64 (n + t))).set_ 3 (.int .i64 (x + t * a))).set_ 4 (.int .i64 (y + t * b))).set_ 5 (.int .i64 (xx + t * a * a))).set_ 6 (.int .i64 (xy + t * a * b)),
    (((((HK.out.drewN nq).setCell (p := ⟨g, 2, none⟩) (.inl rfl) _).setCell (p := ⟨g, 3, none⟩) (.inl rfl) _).setCell (p := ⟨g, 4, none⟩) (.inl rfl) _).setCell (p := ⟨g, 5, none⟩) (.inl rfl) _).setCell (p := ⟨g, 6, none⟩) (.inl rfl) _⟩
end Go.Proofs.YtgabidgpngiecaaGreat
