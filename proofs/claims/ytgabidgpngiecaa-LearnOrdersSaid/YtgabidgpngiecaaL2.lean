/- Contracts of cmp.Compare, slices.Compare, cmp.Or and learn's byRow. Conditions: none. -/
import Derived.Test.YtgabidgpngiecaaL1
namespace Go.Proofs.Ytgabidgpngiecaa
open Go.RowKit Go.Proofs.YtgabidgpngiecaaKit Go.Proofs.YtgabidgpngiecaaPlain

def cmpI (x y : Int) : Int := if x < y then -1 else if y < x then 1 else 0
theorem cmpI_lt {x y : Int} (h : x < y) : cmpI x y = -1 := if_pos h
theorem cmpI_gt {x y : Int} (h : y < x) : cmpI x y = 1 := by unfold cmpI; rw [if_neg (by omega), if_pos h]
theorem cmpI_eq (x : Int) : cmpI x x = 0 := by unfold cmpI; rw [if_neg (by omega), if_neg (by omega)]
def or2 (x y : Int) : Int := if x = 0 then y else x
def cmp3 (a b c a' b' c' : Int) : Int := or2 (cmpI a a') (or2 (cmpI b b') (cmpI c c'))
def rowCmp (r s : Row) : Int := or2 (cmp3 r.a r.b r.c s.a s.b s.c) (cmpI r.l s.l)

set_option maxHeartbeats 400000 in
theorem isnan_any (x : Int) (w : World) : Calls Try.prog 57 #[.int .i64 x] w fun e w' => e = .returned (.bool false) ∧ w = w' := by
  go_enter Try.func57, Try.ntmps57
  go_wp2
  go_ret
  exact ⟨ret_bool (by simp), rfl⟩
set_option maxHeartbeats 400000 in
theorem cmpc_any (x y : Int) (w : World) : Calls Try.prog 38 #[.int .i64 x, .int .i64 y] w fun e w' => e = .returned (.int .i64 (cmpI x y)) ∧ w = w' := by
  rcases Int.lt_trichotomy x y with h | h | h
  · have e := Lib.hid (cmpI_lt h)
    go_enter Try.func38, Try.ntmps38
    go_wp2_with (go_at_call 57; refine (isnan_any _ _).mono ?_; rintro e w' ⟨rfl, rfl⟩)
    go_ret
    exact ⟨ret_int e.out.symm, rfl⟩
  · subst h
    have e := Lib.hid (cmpI_eq x)
    go_enter Try.func38, Try.ntmps38
    go_wp2_with (go_at_call 57; refine (isnan_any _ _).mono ?_; rintro e w' ⟨rfl, rfl⟩)
    go_ret
    exact ⟨ret_int e.out.symm, rfl⟩
  · have e := Lib.hid (cmpI_gt h)
    go_enter Try.func38, Try.ntmps38
    go_wp2_with (go_at_call 57; refine (isnan_any _ _).mono ?_; rintro e w' ⟨rfl, rfl⟩)
    go_ret
    exact ⟨ret_int e.out.symm, rfl⟩
set_option maxHeartbeats 400000 in
theorem cmpor_any {w : World} {ad : Addr} {c : Nat} {x y : Int} (h0 : w.cell? ad = some (.int .i64 x)) (h1 : w.cell? ⟨ad.block, ad.off + 1, none⟩ = some (.int .i64 y)) : Calls Try.prog 66 #[.slice (some ad) 2 c] w fun e w' => e = .returned (.int .i64 (or2 x y)) ∧ w = w' := by
  by_cases hx : x = 0
  · by_cases hy : y = 0
    · have e := Lib.hid (show or2 x y = 0 by unfold or2; rw [if_pos hx, hy])
      have q1 : (x != 0) = false := by simp [hx]
      have q2 : (y != 0) = false := by simp [hy]
      clear hx hy
      go_enter Try.func66, Try.ntmps66
      go_wp2
      refine wp_loop_rounds 3 ?_
      rw [rounds_succ]
      go_wp2
      rw [rounds_succ]
      go_wp2
      rw [rounds_succ]
      go_wp2
      go_ret
      exact ⟨ret_int e.out.symm, rfl⟩
    · have e := Lib.hid (show or2 x y = y by unfold or2; rw [if_pos hx])
      have q1 : (x != 0) = false := by simp [hx]
      have q2 : (y != 0) = true := by simp [hy]
      clear hx hy
      go_enter Try.func66, Try.ntmps66
      go_wp2
      refine wp_loop_rounds 3 ?_
      rw [rounds_succ]
      go_wp2
      rw [rounds_succ]
      go_wp2
      go_ret
      exact ⟨ret_int e.out.symm, rfl⟩
  · have e := Lib.hid (show or2 x y = x by unfold or2; rw [if_neg hx])
    have q1 : (x != 0) = true := by simp [hx]
    clear hx
    go_enter Try.func66, Try.ntmps66
    go_wp2
    refine wp_loop_rounds 3 ?_
    rw [rounds_succ]
    go_wp2
    go_ret
    exact ⟨ret_int e.out.symm, rfl⟩
set_option maxHeartbeats 1000000 in
theorem scompare_any {w : World} {ad ad' : Addr} {c c' : Nat} {x y z x' y' z' : Int} (h0 : w.cell? ad = some (.int .i64 x)) (h1 : w.cell? ⟨ad.block, ad.off + 1, none⟩ = some (.int .i64 y)) (h2 : w.cell? ⟨ad.block, ad.off + 2, none⟩ = some (.int .i64 z))
    (g0 : w.cell? ad' = some (.int .i64 x')) (g1 : w.cell? ⟨ad'.block, ad'.off + 1, none⟩ = some (.int .i64 y')) (g2 : w.cell? ⟨ad'.block, ad'.off + 2, none⟩ = some (.int .i64 z')) :
    Calls Try.prog 67 #[.slice (some ad) 3 c, .slice (some ad') 3 c'] w fun e w' => e = .returned (.int .i64 (cmp3 x y z x' y' z')) ∧ w = w' := by
  have hA := Lib.hid (fun W => cmpc_any x x' W)
  have hB := Lib.hid (fun W => cmpc_any y y' W)
  have hC := Lib.hid (fun W => cmpc_any z z' W)
  unfold cmp3
  generalize cmpI x x' = p at *
  generalize cmpI y y' = q at *
  generalize cmpI z z' = r at *
  by_cases hp : p = 0
  · by_cases hq : q = 0
    · by_cases hr : r = 0
      · have e := Lib.hid (show or2 p (or2 q r) = 0 by unfold or2; rw [if_pos hp, if_pos hq, hr])
        have q1 : (p != 0) = false := by simp [hp]
        have q2 : (q != 0) = false := by simp [hq]
        have q3 : (r != 0) = false := by simp [hr]
        clear hp hq hr
        go_enter Try.func67, Try.ntmps67
        go_wp2
        refine wp_loop_rounds 4 ?_
        rw [rounds_succ]
        go_wp2_with (first
              | (go_at_call_of 38 (Value.int IntKind.i64 x); refine (hA.out _).mono ?_; rintro e w' ⟨rfl, rfl⟩)
              | (go_at_call_of 38 (Value.int IntKind.i64 y); refine (hB.out _).mono ?_; rintro e w' ⟨rfl, rfl⟩)
              | (go_at_call_of 38 (Value.int IntKind.i64 z); refine (hC.out _).mono ?_; rintro e w' ⟨rfl, rfl⟩))
        rw [rounds_succ]
        go_wp2_with (first
              | (go_at_call_of 38 (Value.int IntKind.i64 x); refine (hA.out _).mono ?_; rintro e w' ⟨rfl, rfl⟩)
              | (go_at_call_of 38 (Value.int IntKind.i64 y); refine (hB.out _).mono ?_; rintro e w' ⟨rfl, rfl⟩)
              | (go_at_call_of 38 (Value.int IntKind.i64 z); refine (hC.out _).mono ?_; rintro e w' ⟨rfl, rfl⟩))
        rw [rounds_succ]
        go_wp2_with (first
              | (go_at_call_of 38 (Value.int IntKind.i64 x); refine (hA.out _).mono ?_; rintro e w' ⟨rfl, rfl⟩)
              | (go_at_call_of 38 (Value.int IntKind.i64 y); refine (hB.out _).mono ?_; rintro e w' ⟨rfl, rfl⟩)
              | (go_at_call_of 38 (Value.int IntKind.i64 z); refine (hC.out _).mono ?_; rintro e w' ⟨rfl, rfl⟩))
        rw [rounds_succ]
        go_wp2_with (first
              | (go_at_call_of 38 (Value.int IntKind.i64 x); refine (hA.out _).mono ?_; rintro e w' ⟨rfl, rfl⟩)
              | (go_at_call_of 38 (Value.int IntKind.i64 y); refine (hB.out _).mono ?_; rintro e w' ⟨rfl, rfl⟩)
              | (go_at_call_of 38 (Value.int IntKind.i64 z); refine (hC.out _).mono ?_; rintro e w' ⟨rfl, rfl⟩))
        go_ret
        exact ⟨ret_int e.out.symm, rfl⟩
      · have e := Lib.hid (show or2 p (or2 q r) = r by unfold or2; rw [if_pos hp, if_pos hq])
        have q1 : (p != 0) = false := by simp [hp]
        have q2 : (q != 0) = false := by simp [hq]
        have q3 : (r != 0) = true := by simp [hr]
        clear hp hq hr
        go_enter Try.func67, Try.ntmps67
        go_wp2
        refine wp_loop_rounds 4 ?_
        rw [rounds_succ]
        go_wp2_with (first
              | (go_at_call_of 38 (Value.int IntKind.i64 x); refine (hA.out _).mono ?_; rintro e w' ⟨rfl, rfl⟩)
              | (go_at_call_of 38 (Value.int IntKind.i64 y); refine (hB.out _).mono ?_; rintro e w' ⟨rfl, rfl⟩)
              | (go_at_call_of 38 (Value.int IntKind.i64 z); refine (hC.out _).mono ?_; rintro e w' ⟨rfl, rfl⟩))
        rw [rounds_succ]
        go_wp2_with (first
              | (go_at_call_of 38 (Value.int IntKind.i64 x); refine (hA.out _).mono ?_; rintro e w' ⟨rfl, rfl⟩)
              | (go_at_call_of 38 (Value.int IntKind.i64 y); refine (hB.out _).mono ?_; rintro e w' ⟨rfl, rfl⟩)
              | (go_at_call_of 38 (Value.int IntKind.i64 z); refine (hC.out _).mono ?_; rintro e w' ⟨rfl, rfl⟩))
        rw [rounds_succ]
        go_wp2_with (first
              | (go_at_call_of 38 (Value.int IntKind.i64 x); refine (hA.out _).mono ?_; rintro e w' ⟨rfl, rfl⟩)
              | (go_at_call_of 38 (Value.int IntKind.i64 y); refine (hB.out _).mono ?_; rintro e w' ⟨rfl, rfl⟩)
              | (go_at_call_of 38 (Value.int IntKind.i64 z); refine (hC.out _).mono ?_; rintro e w' ⟨rfl, rfl⟩))
        go_ret
        exact ⟨ret_int e.out.symm, rfl⟩
    · have e := Lib.hid (show or2 p (or2 q r) = q by unfold or2; rw [if_pos hp, if_neg hq])
      have q1 : (p != 0) = false := by simp [hp]
      have q2 : (q != 0) = true := by simp [hq]
      clear hp hq
      go_enter Try.func67, Try.ntmps67
      go_wp2
      refine wp_loop_rounds 4 ?_
      rw [rounds_succ]
      go_wp2_with (first
            | (go_at_call_of 38 (Value.int IntKind.i64 x); refine (hA.out _).mono ?_; rintro e w' ⟨rfl, rfl⟩)
            | (go_at_call_of 38 (Value.int IntKind.i64 y); refine (hB.out _).mono ?_; rintro e w' ⟨rfl, rfl⟩)
            | (go_at_call_of 38 (Value.int IntKind.i64 z); refine (hC.out _).mono ?_; rintro e w' ⟨rfl, rfl⟩))
      rw [rounds_succ]
      go_wp2_with (first
            | (go_at_call_of 38 (Value.int IntKind.i64 x); refine (hA.out _).mono ?_; rintro e w' ⟨rfl, rfl⟩)
            | (go_at_call_of 38 (Value.int IntKind.i64 y); refine (hB.out _).mono ?_; rintro e w' ⟨rfl, rfl⟩)
            | (go_at_call_of 38 (Value.int IntKind.i64 z); refine (hC.out _).mono ?_; rintro e w' ⟨rfl, rfl⟩))
      go_ret
      exact ⟨ret_int e.out.symm, rfl⟩
  · have e := Lib.hid (show or2 p (or2 q r) = p by unfold or2; rw [if_neg hp])
    have q1 : (p != 0) = true := by simp [hp]
    clear hp
    go_enter Try.func67, Try.ntmps67
    go_wp2
    refine wp_loop_rounds 4 ?_
    rw [rounds_succ]
    go_wp2_with (first
          | (go_at_call_of 38 (Value.int IntKind.i64 x); refine (hA.out _).mono ?_; rintro e w' ⟨rfl, rfl⟩)
          | (go_at_call_of 38 (Value.int IntKind.i64 y); refine (hB.out _).mono ?_; rintro e w' ⟨rfl, rfl⟩)
          | (go_at_call_of 38 (Value.int IntKind.i64 z); refine (hC.out _).mono ?_; rintro e w' ⟨rfl, rfl⟩))
    go_ret
    exact ⟨ret_int e.out.symm, rfl⟩
end Go.Proofs.Ytgabidgpngiecaa
