/- Contracts of learn's far, of what Vote sorts by, and of the sort. Conditions: each names its own. -/
import Derived.Test.YtgabidgpngiecaaGreatL6
import Derived.Test.YtgabidgpngiecaaGreatSS5
namespace Go.Proofs.YtgabidgpngiecaaGreat
open Go.RowKit Go.Proofs.YtgabidgpngiecaaGreatKit Go.Proofs.YtgabidgpngiecaaGreatPlain Go.Sort

/-- The square of the distance of a row from a point. -/
def farF (r x : Row) : Int := (r.a - x.a) * (r.a - x.a) + (r.b - x.b) * (r.b - x.b) + (r.c - x.c) * (r.c - x.c)
def ptV (x : Row) : Value := .agg #[.int .i64 x.a, .int .i64 x.b, .int .i64 x.c]
def okPt (x : Row) : Prop := okX x.a ∧ okX x.b ∧ okX x.c
instance (x : Row) : Decidable (okPt x) := inferInstanceAs (Decidable (_ ∧ _))
theorem sq_bd {u v : Int} (h1 : -1000 ≤ u ∧ u ≤ 1000) (h2 : -1000 ≤ v ∧ v ≤ 1000) : 0 ≤ (u - v) * (u - v) ∧ (u - v) * (u - v) ≤ 4000000 := by
  have h := mul_bd (u := u - v) (v := u - v) (U := 2000) (V := 2000) (by omega) (by omega)
  exact ⟨sq_nonneg _, by omega⟩

set_option maxHeartbeats 1000000 in
set_option maxRecDepth 100000 in
theorem far_any {r x : Row} (hr : okRow r) (hx : okPt x) (w : World) : Calls Tryz.prog 45 #[r.v, ptV x] w fun e w' => e = .returned (.int .i64 (farF r x)) ∧ Grown w w' := by
  have mixed : Tryz.prog.follows .mixedOrders = true := by kernel_rfl
  obtain ⟨ra, rb, rc, rl⟩ := r
  obtain ⟨xa, xb, xc, xl⟩ := x
  obtain ⟨⟨a1, a2⟩, ⟨b1, b2⟩, ⟨c1, c2⟩, _⟩ := hr
  obtain ⟨⟨d1, d2⟩, ⟨e1, e2⟩, ⟨f1, f2⟩⟩ := hx
  simp only at a1 a2 b1 b2 c1 c2 d1 d2 e1 e2 f1 f2
  have s1 := sq_bd (u := ra) (v := xa) ⟨a1, a2⟩ ⟨d1, d2⟩
  have s2 := sq_bd (u := rb) (v := xb) ⟨b1, b2⟩ ⟨e1, e2⟩
  have s3 := sq_bd (u := rc) (v := xc) ⟨c1, c2⟩ ⟨f1, f2⟩
  have w1 := fit64 (n := (ra - xa) * (ra - xa)) (by omega) (by omega)
  have w2 := fit64 (n := (rb - xb) * (rb - xb)) (by omega) (by omega)
  have w3 := fit64 (n := (rc - xc) * (rc - xc)) (by omega) (by omega)
  have w4 := fit64 (n := (ra - xa) * (ra - xa) + (rb - xb) * (rb - xb)) (by omega) (by omega)
  have w5 := fit64 (n := (ra - xa) * (ra - xa) + (rb - xb) * (rb - xb) + (rc - xc) * (rc - xc)) (by omega) (by omega)
  have v1 := fit64 (n := ra - xa) (by omega) (by omega)
  have v2 := fit64 (n := rb - xb) (by omega) (by omega)
  have v3 := fit64 (n := rc - xc) (by omega) (by omega)
  have HG := Lib.hid (((Grown.refl w).alloc (.cells #[.int .i64 ra, .int .i64 rb, .int .i64 rc, .int .i64 rl] 30)).alloc (.cells #[.int .i64 xa, .int .i64 xb, .int .i64 xc] 28))
  have B0 := (Blk.new w 30 #[.int .i64 ra, .int .i64 rb, .int .i64 rc, .int .i64 rl]).alloc (.cells #[.int .i64 xa, .int .i64 xb, .int .i64 xc] 28)
  have f0 := B0.cell 0
  have g1 := B0.cell 1
  have g2 := B0.cell 2
  simp only [List.getElem?_toArray, List.getElem?_cons_zero, List.getElem?_cons_succ] at f0 g1 g2
  have i0 : ∀ W, (Instr.index 28 (.agg #[.int .i64 xa, .int .i64 xb, .int .i64 xc]) (.int .i64 0)).run Tryz.prog W = .ok (.int .i64 xa) W := fun _ => by kernel_rfl
  have i1 : ∀ W, (Instr.index 28 (.agg #[.int .i64 xa, .int .i64 xb, .int .i64 xc]) (.int .i64 1)).run Tryz.prog W = .ok (.int .i64 xb) W := fun _ => by kernel_rfl
  have i2 : ∀ W, (Instr.index 28 (.agg #[.int .i64 xa, .int .i64 xb, .int .i64 xc]) (.int .i64 2)).run Tryz.prog W = .ok (.int .i64 xc) W := fun _ => by kernel_rfl
  have HR := Lib.hid (show (ra - xa) * (ra - xa) + (rb - xb) * (rb - xb) + (rc - xc) * (rc - xc) = farF ⟨ra, rb, rc, rl⟩ ⟨xa, xb, xc, xl⟩ from rfl)
  clear B0 s1 s2 s3 a1 a2 b1 b2 c1 c2 d1 d2 e1 e2 f1 f2
  unfold Row.v ptV
  go_enter Tryz.func45, Tryz.ntmps45
  go_wp2_with fail
  generalize (w.alloc (.cells #[.int .i64 ra, .int .i64 rb, .int .i64 rc, .int .i64 rl] 30)).alloc (.cells #[.int .i64 xa, .int .i64 xb, .int .i64 xc] 28) = wa at *
  refine wp_loop_rounds 4 ?_
  rw [rounds_succ]
  go_wp2_with fail
  go_quiet (fail)
  have f0 : (wa.drewN nq).cell? ⟨w.heap.size, 0, none⟩ = some (.int .i64 ra) := f0
  have g1 : (wa.drewN nq).cell? ⟨w.heap.size, 1, none⟩ = some (.int .i64 rb) := g1
  have g2 : (wa.drewN nq).cell? ⟨w.heap.size, 2, none⟩ = some (.int .i64 rc) := g2
  have HG := Lib.hid (HG.out.drewN nq)
  generalize wa.drewN nq = wb at *
  go_wp2_with fail
  rw [rounds_succ]
  go_wp2_with fail
  go_quiet (fail)
  go_wp2_with fail
  rw [rounds_succ]
  go_wp2_with fail
  go_quiet (fail)
  go_wp2_with fail
  rw [rounds_succ]
  go_wp2_with fail
  go_ret
  exact ⟨ret_int HR.out, HG.out.drewN _⟩

/-! ### What Vote sorts by -/
def farC (x : Row) (p q : Row × Nat) : Int := cmpI (farF p.1 x) (farF q.1 x)
theorem ltFar (x : Row) (p q : Row × Nat) : ltOf (farC x) p q = decide (farF p.1 x < farF q.1 x) := by
  unfold ltOf farC
  exact decide_eq_decide.2 (cmpI_neg _ _)
theorem swoFar (x : Row) : SWO (ltOf (farC x)) where
  irrefl p := by rw [ltFar]; simp
  trans p q r h1 h2 := by rw [ltFar] at *; simp at *; omega
  ntrans p q r h1 h2 := by rw [ltFar] at *; simp at *; omega
theorem cmpc_grown (a b : Int) (w : World) : Calls Tryz.prog 44 #[.int .i64 a, .int .i64 b] w fun e w' => e = .returned (.int .i64 (cmpI a b)) ∧ Grown w w' :=
  (cmpc_any a b w).mono fun _ _ ⟨h, e⟩ => ⟨h, e ▸ Grown.refl w⟩
structure VRow (w W : World) (xb : Nat) (p q x : Row × Nat) : Prop where
  b1 : Blk W w.heap.size 96 (encC p).toArray
  b2 : Blk W (w.heap.size + 1) 96 (encC q).toArray
  b3 : Blk W xb 28 #[.int .i64 x.1.a, .int .i64 x.1.b, .int .i64 x.1.c]
  gr : Grown w W
theorem VRow.grown {w W : World} {xb : Nat} {p q x : Row × Nat} (h : VRow w W xb p q x) (n : Nat) (os : Array Obj) : VRow w (grow (W.drewN n) os) xb p q x := by
  have hg : Grown W (grow (W.drewN n) os) := ⟨n, os, rfl⟩
  obtain ⟨m, os0, hw⟩ := h.gr
  exact ⟨h.b1.keep hg.keep (fun x => x), h.b2.keep hg.keep (fun x => x), h.b3.keep hg.keep (fun x => x), by
    rw [hw]
    exact ⟨m + n, os0 ++ os, by show grow (grow ((w.drewN m).drewN n) os0) os = _; rw [grow_grow, World.drewN_drewN]⟩⟩
theorem VRow.start {w : World} {xb : Nat} {x : Row × Nat} (h : Blk w xb 28 #[.int .i64 x.1.a, .int .i64 x.1.b, .int .i64 x.1.c]) (p q : Row × Nat) : VRow w ((w.alloc (.cells (encC p).toArray 96)).alloc (.cells (encC q).toArray 96)) xb p q x := by
  have hb := BRow.start w p q
  exact ⟨hb.b1, hb.b2, (h.alloc _).alloc _, hb.gr⟩

set_option maxHeartbeats 2000000 in
set_option maxRecDepth 100000 in
theorem vote1_any {w : World} {xb : Nat} (p q x : Row × Nat) (hp : okRow p.1) (hq : okRow q.1) (hx : okPt x.1) (hb : Blk w xb 28 #[.int .i64 x.1.a, .int .i64 x.1.b, .int .i64 x.1.c]) :
    Calls Tryz.prog 43 #[.agg (encC p).toArray, .agg (encC q).toArray, .pointer (some ⟨xb, 0, none⟩)] w fun e w' => e = .returned (.int .i64 (farC x.1 p q)) ∧ Grown w w' := by
  have mixed : Tryz.prog.follows .mixedOrders = true := by kernel_rfl
  have H0 := Lib.hid (VRow.start hb p q)
  have HF1 := Lib.hid (fun W => far_any hp hx W)
  have HF2 := Lib.hid (fun W => far_any hq hx W)
  have HCC := Lib.hid (fun W => cmpc_grown (farF p.1 x.1) (farF q.1 x.1) W)
  unfold farC
  generalize cmpI (farF p.1 x.1) (farF q.1 x.1) = cl at *
  generalize farF p.1 x.1 = fp at *
  generalize farF q.1 x.1 = fq at *
  unfold encC at H0 ⊢
  unfold Row.v ptV at HF1 HF2
  go_enter Tryz.func43, Tryz.ntmps43
  go_wp2_with fail
  generalize (w.alloc (.cells [Value.int .i64 p.1.a, .int .i64 p.1.b, .int .i64 p.1.c, .int .i64 p.1.l, .int .i64 (p.2 : Nat)].toArray 96)).alloc (.cells [Value.int .i64 q.1.a, .int .i64 q.1.b, .int .i64 q.1.c, .int .i64 q.1.l, .int .i64 (q.2 : Nat)].toArray 96) = w1 at *
  have p0 : ∀ n os, (grow (w1.drewN n) os).cell? ⟨w.heap.size, 0, none⟩ = some (.int .i64 p.1.a) := fun n os => (H0.out.grown n os).b1.cell 0
  have p1 : ∀ n os, (grow (w1.drewN n) os).cell? ⟨w.heap.size, 1, none⟩ = some (.int .i64 p.1.b) := fun n os => (H0.out.grown n os).b1.cell 1
  have p2 : ∀ n os, (grow (w1.drewN n) os).cell? ⟨w.heap.size, 2, none⟩ = some (.int .i64 p.1.c) := fun n os => (H0.out.grown n os).b1.cell 2
  have p3 : ∀ n os, (grow (w1.drewN n) os).cell? ⟨w.heap.size, 3, none⟩ = some (.int .i64 p.1.l) := fun n os => (H0.out.grown n os).b1.cell 3
  have q0 : ∀ n os, (grow (w1.drewN n) os).cell? ⟨w.heap.size + 1, 0, none⟩ = some (.int .i64 q.1.a) := fun n os => (H0.out.grown n os).b2.cell 0
  have q1 : ∀ n os, (grow (w1.drewN n) os).cell? ⟨w.heap.size + 1, 1, none⟩ = some (.int .i64 q.1.b) := fun n os => (H0.out.grown n os).b2.cell 1
  have q2 : ∀ n os, (grow (w1.drewN n) os).cell? ⟨w.heap.size + 1, 2, none⟩ = some (.int .i64 q.1.c) := fun n os => (H0.out.grown n os).b2.cell 2
  have q3 : ∀ n os, (grow (w1.drewN n) os).cell? ⟨w.heap.size + 1, 3, none⟩ = some (.int .i64 q.1.l) := fun n os => (H0.out.grown n os).b2.cell 3
  have x0 : ∀ n os, (grow (w1.drewN n) os).cell? ⟨xb, 0, none⟩ = some (.int .i64 x.1.a) := fun n os => (H0.out.grown n os).b3.cell 0
  have x1 : ∀ n os, (grow (w1.drewN n) os).cell? ⟨xb, 1, none⟩ = some (.int .i64 x.1.b) := fun n os => (H0.out.grown n os).b3.cell 1
  have x2 : ∀ n os, (grow (w1.drewN n) os).cell? ⟨xb, 2, none⟩ = some (.int .i64 x.1.c) := fun n os => (H0.out.grown n os).b3.cell 2
  go_quiet_grown (first
    | (go_at_call_of 45 (Value.int IntKind.i64 p.1.a); refine Calls.grown_of (HF1.out _))
    | (go_at_call_of 45 (Value.int IntKind.i64 q.1.a); refine Calls.grown_of (HF2.out _))
    | (go_at_call 44; refine Calls.grown_of (HCC.out _)))
  go_wp2
  go_ret
  exact ⟨rfl, (H0.out.grown nq osq).gr⟩
end Go.Proofs.YtgabidgpngiecaaGreat
