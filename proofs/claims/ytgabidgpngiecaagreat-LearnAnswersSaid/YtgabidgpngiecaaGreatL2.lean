/- Contracts of cmp.Compare, slices.Compare, cmp.Or and learn's byRow. Conditions: none. -/
import Derived.Test.YtgabidgpngiecaaGreatL1
import Derived.Shelf.SlSortCmp.WholeK
namespace Go.Proofs.YtgabidgpngiecaaGreat
open Go.RowKit Go.Proofs.YtgabidgpngiecaaGreatKit Go.Proofs.YtgabidgpngiecaaGreatPlain

def cmpI (x y : Int) : Int := if x < y then -1 else if y < x then 1 else 0
theorem cmpI_lt {x y : Int} (h : x < y) : cmpI x y = -1 := if_pos h
theorem cmpI_gt {x y : Int} (h : y < x) : cmpI x y = 1 := by unfold cmpI; rw [if_neg (by omega), if_pos h]
theorem cmpI_eq (x : Int) : cmpI x x = 0 := by unfold cmpI; rw [if_neg (by omega), if_neg (by omega)]
def or2 (x y : Int) : Int := if x = 0 then y else x
def cmp3 (a b c a' b' c' : Int) : Int := or2 (cmpI a a') (or2 (cmpI b b') (cmpI c c'))
def rowCmp (r s : Row) : Int := or2 (cmp3 r.a r.b r.c s.a s.b s.c) (cmpI r.l s.l)

set_option maxHeartbeats 400000 in
theorem isnan_any (x : Int) (w : World) : Calls Tryz.prog 62 #[.int .i64 x] w fun e w' => e = .returned (.bool false) ∧ w = w' := by
  go_enter Tryz.func62, Tryz.ntmps62
  go_wp2
  go_ret
  exact ⟨ret_bool (by simp), rfl⟩
set_option maxHeartbeats 400000 in
theorem cmpc_any (x y : Int) (w : World) : Calls Tryz.prog 44 #[.int .i64 x, .int .i64 y] w fun e w' => e = .returned (.int .i64 (cmpI x y)) ∧ w = w' := by
  rcases Int.lt_trichotomy x y with h | h | h
  · have e := Lib.hid (cmpI_lt h)
    go_enter Tryz.func44, Tryz.ntmps44
    go_wp2_with (go_at_call 62; refine (isnan_any _ _).mono ?_; rintro e w' ⟨rfl, rfl⟩)
    go_ret
    exact ⟨ret_int e.out.symm, rfl⟩
  · subst h
    have e := Lib.hid (cmpI_eq x)
    go_enter Tryz.func44, Tryz.ntmps44
    go_wp2_with (go_at_call 62; refine (isnan_any _ _).mono ?_; rintro e w' ⟨rfl, rfl⟩)
    go_ret
    exact ⟨ret_int e.out.symm, rfl⟩
  · have e := Lib.hid (cmpI_gt h)
    go_enter Tryz.func44, Tryz.ntmps44
    go_wp2_with (go_at_call 62; refine (isnan_any _ _).mono ?_; rintro e w' ⟨rfl, rfl⟩)
    go_ret
    exact ⟨ret_int e.out.symm, rfl⟩
set_option maxHeartbeats 400000 in
theorem cmpor_any {w : World} {ad : Addr} {c : Nat} {x y : Int} (h0 : w.cell? ad = some (.int .i64 x)) (h1 : w.cell? ⟨ad.block, ad.off + 1, none⟩ = some (.int .i64 y)) : Calls Tryz.prog 72 #[.slice (some ad) 2 c] w fun e w' => e = .returned (.int .i64 (or2 x y)) ∧ w = w' := by
  by_cases hx : x = 0
  · by_cases hy : y = 0
    · have e := Lib.hid (show or2 x y = 0 by unfold or2; rw [if_pos hx, hy])
      have q1 : (x != 0) = false := by simp [hx]
      have q2 : (y != 0) = false := by simp [hy]
      clear hx hy
      go_enter Tryz.func72, Tryz.ntmps72
      go_wp2
      refine wp_loop_rounds 3 ?_
      rw [rounds_succ]
      go_wp2
      rw [rounds_succ]
      go_wp2
      rw [rounds_succ]
      go_wp2
      go_ret
      exact ⟨ret_int e.out.symm, rfl⟩
    · have e := Lib.hid (show or2 x y = y by unfold or2; rw [if_pos hx])
      have q1 : (x != 0) = false := by simp [hx]
      have q2 : (y != 0) = true := by simp [hy]
      clear hx hy
      go_enter Tryz.func72, Tryz.ntmps72
      go_wp2
      refine wp_loop_rounds 3 ?_
      rw [rounds_succ]
      go_wp2
      rw [rounds_succ]
      go_wp2
      go_ret
      exact ⟨ret_int e.out.symm, rfl⟩
  · have e := Lib.hid (show or2 x y = x by unfold or2; rw [if_neg hx])
    have q1 : (x != 0) = true := by simp [hx]
    clear hx
    go_enter Tryz.func72, Tryz.ntmps72
    go_wp2
    refine wp_loop_rounds 3 ?_
    rw [rounds_succ]
    go_wp2
    go_ret
    exact ⟨ret_int e.out.symm, rfl⟩
set_option maxHeartbeats 1000000 in
theorem scompare_any {w : World} {ad ad' : Addr} {c c' : Nat} {x y z x' y' z' : Int} (h0 : w.cell? ad = some (.int .i64 x)) (h1 : w.cell? ⟨ad.block, ad.off + 1, none⟩ = some (.int .i64 y)) (h2 : w.cell? ⟨ad.block, ad.off + 2, none⟩ = some (.int .i64 z))
    (g0 : w.cell? ad' = some (.int .i64 x')) (g1 : w.cell? ⟨ad'.block, ad'.off + 1, none⟩ = some (.int .i64 y')) (g2 : w.cell? ⟨ad'.block, ad'.off + 2, none⟩ = some (.int .i64 z')) :
    Calls Tryz.prog 73 #[.slice (some ad) 3 c, .slice (some ad') 3 c'] w fun e w' => e = .returned (.int .i64 (cmp3 x y z x' y' z')) ∧ w = w' := by
  have hA := Lib.hid (fun W => cmpc_any x x' W)
  have hB := Lib.hid (fun W => cmpc_any y y' W)
  have hC := Lib.hid (fun W => cmpc_any z z' W)
  unfold cmp3
  generalize cmpI x x' = p at *
  generalize cmpI y y' = q at *
  generalize cmpI z z' = r at *
  by_cases hp : p = 0
  · by_cases hq : q = 0
    · by_cases hr : r = 0
      · have e := Lib.hid (show or2 p (or2 q r) = 0 by unfold or2; rw [if_pos hp, if_pos hq, hr])
        have q1 : (p != 0) = false := by simp [hp]
        have q2 : (q != 0) = false := by simp [hq]
        have q3 : (r != 0) = false := by simp [hr]
        clear hp hq hr
        go_enter Tryz.func73, Tryz.ntmps73
        go_wp2
        refine wp_loop_rounds 4 ?_
        rw [rounds_succ]
        go_wp2_with (first
              | (go_at_call_of 44 (Value.int IntKind.i64 x); refine (hA.out _).mono ?_; rintro e w' ⟨rfl, rfl⟩)
              | (go_at_call_of 44 (Value.int IntKind.i64 y); refine (hB.out _).mono ?_; rintro e w' ⟨rfl, rfl⟩)
              | (go_at_call_of 44 (Value.int IntKind.i64 z); refine (hC.out _).mono ?_; rintro e w' ⟨rfl, rfl⟩))
        rw [rounds_succ]
        go_wp2_with (first
              | (go_at_call_of 44 (Value.int IntKind.i64 x); refine (hA.out _).mono ?_; rintro e w' ⟨rfl, rfl⟩)
              | (go_at_call_of 44 (Value.int IntKind.i64 y); refine (hB.out _).mono ?_; rintro e w' ⟨rfl, rfl⟩)
              | (go_at_call_of 44 (Value.int IntKind.i64 z); refine (hC.out _).mono ?_; rintro e w' ⟨rfl, rfl⟩))
        rw [rounds_succ]
        go_wp2_with (first
              | (go_at_call_of 44 (Value.int IntKind.i64 x); refine (hA.out _).mono ?_; rintro e w' ⟨rfl, rfl⟩)
              | (go_at_call_of 44 (Value.int IntKind.i64 y); refine (hB.out _).mono ?_; rintro e w' ⟨rfl, rfl⟩)
              | (go_at_call_of 44 (Value.int IntKind.i64 z); refine (hC.out _).mono ?_; rintro e w' ⟨rfl, rfl⟩))
        rw [rounds_succ]
        go_wp2_with (first
              | (go_at_call_of 44 (Value.int IntKind.i64 x); refine (hA.out _).mono ?_; rintro e w' ⟨rfl, rfl⟩)
              | (go_at_call_of 44 (Value.int IntKind.i64 y); refine (hB.out _).mono ?_; rintro e w' ⟨rfl, rfl⟩)
              | (go_at_call_of 44 (Value.int IntKind.i64 z); refine (hC.out _).mono ?_; rintro e w' ⟨rfl, rfl⟩))
        go_ret
        exact ⟨ret_int e.out.symm, rfl⟩
      · have e := Lib.hid (show or2 p (or2 q r) = r by unfold or2; rw [if_pos hp, if_pos hq])
        have q1 : (p != 0) = false := by simp [hp]
        have q2 : (q != 0) = false := by simp [hq]
        have q3 : (r != 0) = true := by simp [hr]
        clear hp hq hr
        go_enter Tryz.func73, Tryz.ntmps73
        go_wp2
        refine wp_loop_rounds 4 ?_
        rw [rounds_succ]
        go_wp2_with (first
              | (go_at_call_of 44 (Value.int IntKind.i64 x); refine (hA.out _).mono ?_; rintro e w' ⟨rfl, rfl⟩)
              | (go_at_call_of 44 (Value.int IntKind.i64 y); refine (hB.out _).mono ?_; rintro e w' ⟨rfl, rfl⟩)
              | (go_at_call_of 44 (Value.int IntKind.i64 z); refine (hC.out _).mono ?_; rintro e w' ⟨rfl, rfl⟩))
        rw [rounds_succ]
        go_wp2_with (first
              | (go_at_call_of 44 (Value.int IntKind.i64 x); refine (hA.out _).mono ?_; rintro e w' ⟨rfl, rfl⟩)
              | (go_at_call_of 44 (Value.int IntKind.i64 y); refine (hB.out _).mono ?_; rintro e w' ⟨rfl, rfl⟩)
              | (go_at_call_of 44 (Value.int IntKind.i64 z); refine (hC.out _).mono ?_; rintro e w' ⟨rfl, rfl⟩))
        rw [rounds_succ]
        go_wp2_with (first
              | (go_at_call_of 44 (Value.int IntKind.i64 x); refine (hA.out _).mono ?_; rintro e w' ⟨rfl, rfl⟩)
              | (go_at_call_of 44 (Value.int IntKind.i64 y); refine (hB.out _).mono ?_; rintro e w' ⟨rfl, rfl⟩)
              | (go_at_call_of 44 (Value.int IntKind.i64 z); refine (hC.out _).mono ?_; rintro e w' ⟨rfl, rfl⟩))
        go_ret
        exact ⟨ret_int e.out.symm, rfl⟩
    · have e := Lib.hid (show or2 p (or2 q r) = q by unfold or2; rw [if_pos hp, if_neg hq])
      have q1 : (p != 0) = false := by simp [hp]
      have q2 : (q != 0) = true := by simp [hq]
      clear hp hq
      go_enter Tryz.func73, Tryz.ntmps73
      go_wp2
      refine wp_loop_rounds 4 ?_
      rw [rounds_succ]
      go_wp2_with (first
            | (go_at_call_of 44 (Value.int IntKind.i64 x); refine (hA.out _).mono ?_; rintro e w' ⟨rfl, rfl⟩)
            | (go_at_call_of 44 (Value.int IntKind.i64 y); refine (hB.out _).mono ?_; rintro e w' ⟨rfl, rfl⟩)
            | (go_at_call_of 44 (Value.int IntKind.i64 z); refine (hC.out _).mono ?_; rintro e w' ⟨rfl, rfl⟩))
      rw [rounds_succ]
      go_wp2_with (first
            | (go_at_call_of 44 (Value.int IntKind.i64 x); refine (hA.out _).mono ?_; rintro e w' ⟨rfl, rfl⟩)
            | (go_at_call_of 44 (Value.int IntKind.i64 y); refine (hB.out _).mono ?_; rintro e w' ⟨rfl, rfl⟩)
            | (go_at_call_of 44 (Value.int IntKind.i64 z); refine (hC.out _).mono ?_; rintro e w' ⟨rfl, rfl⟩))
      go_ret
      exact ⟨ret_int e.out.symm, rfl⟩
  · have e := Lib.hid (show or2 p (or2 q r) = p by unfold or2; rw [if_neg hp])
    have q1 : (p != 0) = true := by simp [hp]
    clear hp
    go_enter Tryz.func73, Tryz.ntmps73
    go_wp2
    refine wp_loop_rounds 4 ?_
    rw [rounds_succ]
    go_wp2_with (first
          | (go_at_call_of 44 (Value.int IntKind.i64 x); refine (hA.out _).mono ?_; rintro e w' ⟨rfl, rfl⟩)
          | (go_at_call_of 44 (Value.int IntKind.i64 y); refine (hB.out _).mono ?_; rintro e w' ⟨rfl, rfl⟩)
          | (go_at_call_of 44 (Value.int IntKind.i64 z); refine (hC.out _).mono ?_; rintro e w' ⟨rfl, rfl⟩))
    go_ret
    exact ⟨ret_int e.out.symm, rfl⟩
end Go.Proofs.YtgabidgpngiecaaGreat

namespace Go.Proofs.YtgabidgpngiecaaGreat
open Go.RowKit Go.Proofs.YtgabidgpngiecaaGreatKit Go.Proofs.YtgabidgpngiecaaGreatPlain Go.Sort

instance : Inhabited Row := ⟨⟨0, 0, 0, 0⟩⟩
def encC (p : Row × Nat) : List Value := [.int .i64 p.1.a, .int .i64 p.1.b, .int .i64 p.1.c, .int .i64 p.1.l, .int .i64 (p.2 : Nat)]
def Grown (w w' : World) : Prop := ∃ q os, w' = grow (w.drewN q) os
theorem Grown.refl (w : World) : Grown w w := ⟨0, #[], by rw [grow_empty]; rfl⟩
theorem Grown.drewN {w w' : World} (h : Grown w w') (n : Nat) : Grown w (w'.drewN n) := by
  obtain ⟨q, os, rfl⟩ := h
  exact ⟨q + n, os, by simp [grow, World.drewN, Nat.add_assoc]⟩
theorem Grown.drew {w w' : World} (h : Grown w w') : Grown w w'.drew := h.drewN 1
theorem Grown.alloc {w w' : World} (h : Grown w w') (o : Obj) : Grown w (w'.alloc o) := by
  obtain ⟨q, os, rfl⟩ := h
  exact ⟨q, os ++ #[o], by rw [alloc_eq_grow, grow_grow]⟩
theorem Grown.keep {w w' : World} (h : Grown w w') : Keep No w w' := by
  obtain ⟨q, os, rfl⟩ := h
  exact ⟨rfl, rfl, rfl, by simp [grow, World.drewN], fun k hk _ => by
    show (w.heap ++ os)[k]? = _
    rw [Array.getElem?_append_left hk]⟩
structure BRow (w : World) (p q : Row × Nat) (W : World) : Prop where
  b1 : Blk W w.heap.size 96 (encC p).toArray
  b2 : Blk W (w.heap.size + 1) 96 (encC q).toArray
  gr : Grown w W
theorem BRow.start (w : World) (p q : Row × Nat) : BRow w p q ((w.alloc (.cells (encC p).toArray 96)).alloc (.cells (encC q).toArray 96)) := by
  have h2 := Blk.new (w.alloc (.cells (encC p).toArray 96)) 96 (encC q).toArray
  have hz : (w.alloc (.cells (encC p).toArray 96)).heap.size = w.heap.size + 1 := by simp
  rw [hz] at h2
  exact ⟨(Blk.new _ _ _).alloc _, h2, ((Grown.refl w).alloc _).alloc _⟩
theorem BRow.new_ {w W W' : World} {p q : Row × Nat} (h : BRow w p q W) (hk : Keep No W W') (hg : Grown w W') : BRow w p q W' := ⟨h.b1.keep hk (fun x => x), h.b2.keep hk (fun x => x), hg⟩
def BS (w : World) (p q : Row × Nat) (W : World) : Prop :=
  W.cell? ⟨w.heap.size, 0, none⟩ = some (.int .i64 p.1.a) ∧ W.cell? ⟨w.heap.size, 1, none⟩ = some (.int .i64 p.1.b) ∧ W.cell? ⟨w.heap.size, 2, none⟩ = some (.int .i64 p.1.c) ∧ W.cell? ⟨w.heap.size, 3, none⟩ = some (.int .i64 p.1.l) ∧
  W.cell? ⟨w.heap.size + 1, 0, none⟩ = some (.int .i64 q.1.a) ∧ W.cell? ⟨w.heap.size + 1, 1, none⟩ = some (.int .i64 q.1.b) ∧ W.cell? ⟨w.heap.size + 1, 2, none⟩ = some (.int .i64 q.1.c) ∧ W.cell? ⟨w.heap.size + 1, 3, none⟩ = some (.int .i64 q.1.l) ∧ BRow w p q W
theorem BRow.s {w W : World} {p q : Row × Nat} (h : BRow w p q W) : BS w p q W := ⟨h.b1.cell 0, h.b1.cell 1, h.b1.cell 2, h.b1.cell 3, h.b2.cell 0, h.b2.cell 1, h.b2.cell 2, h.b2.cell 3, h⟩

set_option maxHeartbeats 2000000 in
set_option maxRecDepth 100000 in
theorem byrow_any (p q : Row × Nat) (w : World) : Calls Tryz.prog 57 #[.agg (encC p).toArray, .agg (encC q).toArray] w fun e w' => e = .returned (.int .i64 (rowCmp p.1 q.1)) ∧ Grown w w' := by
  have H0 := Lib.hid (BRow.start w p q)
  have HSC := Lib.hid (fun W (h : BS w p q W) => scompare_any (c := 3) (c' := 3) h.1 h.2.1 h.2.2.1 h.2.2.2.2.1 h.2.2.2.2.2.1 h.2.2.2.2.2.2.1)
  have HCC := Lib.hid (fun W => cmpc_any p.1.l q.1.l W)
  have HOR := Lib.hid (fun W (x y : Int) => cmpor_any (w := (W.alloc (.cells #[.int .i64 x, .int .i64 y] 3)).drew) (ad := ⟨W.heap.size, 0, none⟩) (c := 2) ((Blk.new W 3 #[.int .i64 x, .int .i64 y]).cell 0) ((Blk.new W 3 #[.int .i64 x, .int .i64 y]).cell 1))
  unfold rowCmp
  generalize cmp3 p.1.a p.1.b p.1.c q.1.a q.1.b q.1.c = c3 at *
  generalize cmpI p.1.l q.1.l = cl at *
  unfold encC at H0 ⊢
  go_enter Tryz.func57, Tryz.ntmps57
  go_wp2_with fail
  generalize (w.alloc (.cells [Value.int .i64 p.1.a, .int .i64 p.1.b, .int .i64 p.1.c, .int .i64 p.1.l, .int .i64 (p.2 : Nat)].toArray 96)).alloc (.cells [Value.int .i64 q.1.a, .int .i64 q.1.b, .int .i64 q.1.c, .int .i64 q.1.l, .int .i64 (q.2 : Nat)].toArray 96) = w1 at *
  go_region_held3 (fun W => W.cell? ⟨w.heap.size, 0, none⟩ = some (.int .i64 p.1.a) ∧ W.cell? ⟨w.heap.size, 1, none⟩ = some (.int .i64 p.1.b) ∧ W.cell? ⟨w.heap.size, 2, none⟩ = some (.int .i64 p.1.c) ∧ W.cell? ⟨w.heap.size, 3, none⟩ = some (.int .i64 p.1.l) ∧
      W.cell? ⟨w.heap.size + 1, 0, none⟩ = some (.int .i64 q.1.a) ∧ W.cell? ⟨w.heap.size + 1, 1, none⟩ = some (.int .i64 q.1.b) ∧ W.cell? ⟨w.heap.size + 1, 2, none⟩ = some (.int .i64 q.1.c) ∧ W.cell? ⟨w.heap.size + 1, 3, none⟩ = some (.int .i64 q.1.l) ∧ BRow w p q W)
    (first
      | exact (BRow.new_ H0.out ((Keep.refl No w1).drew) H0.out.gr.drew).s
      | (go_split_ands; have hbr : BRow w p q _ := (by assumption); exact hbr.s)
      | (go_split_ands; have hbr : BRow w p q w1.drew := (by assumption); exact (hbr.new_ ((Keep.refl No _).alloc _) (hbr.gr.alloc _)).s)
      | go_keep)
    (first
      | (go_at_call 73; go_split_ands; have hbr : BRow w p q _ := (by assumption); refine (HSC.out _ hbr.s).mono ?_; rintro e w' ⟨rfl, rfl⟩)
      | (go_at_call 44; refine (HCC.out _).mono ?_; rintro e w' ⟨rfl, rfl⟩)
      | (go_at_call 72; refine (HOR.out _ c3 cl).mono ?_; rintro e w' ⟨rfl, rfl⟩))
  all_goals
    go_split_ands
    go_wp2
    go_ret
    have hbr : BRow w p q ((w1.alloc (.cells #[.int .i64 c3, .int .i64 cl] 3)).drew) := by assumption
    exact ⟨rfl, hbr.gr⟩
end Go.Proofs.YtgabidgpngiecaaGreat
