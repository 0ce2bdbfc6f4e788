/- Contract of learn's Vote at a model of no rows; what LearnVotes holds in memory. Conditions: each names its own. -/
import Derived.Test.YtgabidgpngiecaaLV4
import Derived.Test.YtgabidgpngiecaaLB1
import Derived.Test.YtgabidgpngiecaaLC0
namespace Go.Proofs.Ytgabidgpngiecaa
open Go.RowKit Go.Proofs.YtgabidgpngiecaaKit Go.Proofs.YtgabidgpngiecaaPlain Go.Sort

set_option maxHeartbeats 1000000 in
set_option maxRecDepth 100000 in
theorem vote_none {base : Nat} {w : World} {mb b : Nat} (x : Row) (k : Int) (h : Mdl base w mb b []) (hx : okPt x) (hk1 : 1 ≤ k) :
    Calls Try.prog 20 #[.pointer (some ⟨mb, 0, none⟩), ptV x, .int .i64 k] w fun e w' => e = .returned (.tuple #[.int .i64 0, .int .i64 3]) ∧ Keep No w w' := by
  have B0 := Blk.new w 31 #[.int .i64 x.a, .int .i64 x.b, .int .i64 x.c]
  have K0 := Lib.hid ((Keep.refl No w).alloc (.cells #[.int .i64 x.a, .int .i64 x.b, .int .i64 x.c] 31))
  have HI := Lib.hid (fun W => inside_any x.a x.b x.c W)
  rw [decide_eq_true (show okX x.a ∧ okX x.b ∧ okX x.c from hx)] at HI
  have HM := Lib.hid (fun W (hW : Keep No w W) => sorted_any (h.new_ hW))
  have f0 := B0.cell 0
  have f1 := B0.cell 1
  have f2 := B0.cell 2
  simp only [List.getElem?_toArray, List.getElem?_cons_zero, List.getElem?_cons_succ] at f0 f1 f2
  clear h B0 hx
  have hkk : decide (k < 1) = false := decide_eq_false (by omega)
  unfold ptV
  go_enter Try.func20, Try.ntmps20
  go_wp2_with fail
  generalize w.alloc (.cells #[.int .i64 x.a, .int .i64 x.b, .int .i64 x.c] 31) = w0 at *
  refine (HI.out w0).mono ?_
  rintro e w1 ⟨rfl, k1⟩
  have K1 := Lib.hid (K0.out.trans k1 (fun _ x => x.elim))
  clear k1 f0 f1 f2 HI K0
  go_wp2_with fail
  refine (HM.out _ K1.out).mono ?_
  rintro e w2 ⟨v, L, rfl, hC, _, hp, _, hok, hk2⟩
  have hL : L = [] := by
    rcases L with _ | ⟨p, L⟩
    · rfl
    · have h1 := hp.length_eq
      have h2 := (hok p List.mem_cons_self).1
      simp [expand] at h1
      omega
  subst hL
  obtain ⟨A, c, rfl, _⟩ := own_shape hC
  have K2 := Lib.hid (K1.out.trans hk2 (fun _ x => x.elim))
  clear hC hp hok hk2 HM
  go_wp2_with fail
  go_ret2
  exact ⟨rfl, K2.out⟩

/-- What LearnVotes holds: a model of the rows, the rows, and the point. -/
structure VW (w W : World) (v : Value) (R : List Row) (x : Row) : Prop where
  md : Mdl (w.heap.size + 1) W (w.heap.size + 1 + 1) (w.heap.size + 1) R
  ro : ROwn (w.heap.size + 1) W v R
  bx : Blk W w.heap.size 31 #[.int .i64 x.a, .int .i64 x.b, .int .i64 x.c]
  kp : Keep No w W
section
variable {w W W' : World} {v : Value} {R : List Row} {x x' : Row}
theorem VW.new_ (h : VW w W v R x) (hk : Keep No W W') : VW w W' v R x := ⟨h.md.new_ hk, h.ro.keep hk (fun _ _ x => x), h.bx.keep hk (fun x => x), h.kp.trans hk (fun _ x => x.elim)⟩
theorem VW.set (h : VW w W v R x) (hk : Keep (fun k => k = w.heap.size) W W') (hb : Blk W' w.heap.size 31 #[.int .i64 x'.a, .int .i64 x'.b, .int .i64 x'.c]) : VW w W' v R x' :=
  ⟨h.md.keep hk (fun e => by omega) (fun e => by omega), h.ro.keep hk (fun k e hs => by have := (h.ro.lt k e).1; omega), hb, h.kp.trans hk (fun k e => .inr (by omega))⟩
theorem VW.cells (h : VW w W v R x) : W.cell? ⟨w.heap.size, 0, none⟩ = some (.int .i64 x.a) ∧ W.cell? ⟨w.heap.size, 1, none⟩ = some (.int .i64 x.b) ∧ W.cell? ⟨w.heap.size, 2, none⟩ = some (.int .i64 x.c) := ⟨h.bx.cell 0, h.bx.cell 1, h.bx.cell 2⟩
end
/-- The first k numbers of a point brought within. -/
def mods (k : Nat) (x : Row) : Row := ⟨if 0 < k then x.a.tmod 1001 else x.a, if 1 < k then x.b.tmod 1001 else x.b, if 2 < k then x.c.tmod 1001 else x.c, x.l⟩
theorem okX_tmod (n : Int) : okX (n.tmod 1001) := by
  unfold okX
  have h1 := Int.lt_tmod_of_pos n (b := 1001) (by decide)
  have h2 := Int.tmod_lt_of_pos n (b := 1001) (by decide)
  omega
theorem mods_ok (x : Row) : okPt (mods 3 x) := ⟨okX_tmod _, okX_tmod _, okX_tmod _⟩
theorem BI.vw {w W : World} {v : Value} {R : List Row} {x : Row} (h : BI (w.alloc (.cells #[.int .i64 x.a, .int .i64 x.b, .int .i64 x.c] 31)) W ((w.alloc (.cells #[.int .i64 x.a, .int .i64 x.b, .int .i64 x.c] 31)).heap.size + 1) (w.alloc (.cells #[.int .i64 x.a, .int .i64 x.b, .int .i64 x.c] 31)).heap.size v R) : VW w W v R (mods 0 x) := by
  have e : (w.alloc (.cells #[.int .i64 x.a, .int .i64 x.b, .int .i64 x.c] 31)).heap.size = w.heap.size + 1 := by simp
  refine ⟨e ▸ h.md, e ▸ h.ro, (Blk.new w _ _).keep h.kp (fun x => x), ((Keep.refl No w).alloc _).trans h.kp (fun _ x => x.elim)⟩
theorem VW.step0 {w W : World} {v : Value} {R : List Row} {x : Row} (h : VW w W v R (mods 0 x)) : VW w (W.setCell ⟨w.heap.size, 0, none⟩ (.int .i64 (x.a.tmod 1001))) v R (mods 1 x) :=
  h.set ((Keep.refl (fun k => k = w.heap.size) W).setCell (p := ⟨w.heap.size, 0, none⟩) (.inl rfl) _) (h.bx.set_ 0 _)
theorem VW.step1 {w W : World} {v : Value} {R : List Row} {x : Row} (h : VW w W v R (mods 1 x)) : VW w (W.setCell ⟨w.heap.size, 1, none⟩ (.int .i64 (x.b.tmod 1001))) v R (mods 2 x) :=
  h.set ((Keep.refl (fun k => k = w.heap.size) W).setCell (p := ⟨w.heap.size, 1, none⟩) (.inl rfl) _) (h.bx.set_ 1 _)
theorem VW.step2 {w W : World} {v : Value} {R : List Row} {x : Row} (h : VW w W v R (mods 2 x)) : VW w (W.setCell ⟨w.heap.size, 2, none⟩ (.int .i64 (x.c.tmod 1001))) v R (mods 3 x) :=
  h.set ((Keep.refl (fun k => k = w.heap.size) W).setCell (p := ⟨w.heap.size, 2, none⟩) (.inl rfl) _) (h.bx.set_ 2 _)
end Go.Proofs.Ytgabidgpngiecaa
