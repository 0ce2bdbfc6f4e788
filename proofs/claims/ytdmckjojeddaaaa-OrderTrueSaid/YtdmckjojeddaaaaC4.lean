/- Contracts of the small functions of the reference: Little, Mark, Told, Compare, Allowed; and of the laws' same and long. Conditions: each names its own. -/
import Derived.Test.YtdmckjojeddaaaaC3
namespace Go.Proofs.Ytdmckjojeddaaaa
open Go.RowKit Go.Proofs.YtdmckjojeddaaaaKit

theorem ownsRow_weak {w : World} {base base' e size n : Nat} {v : Value} {xs : List Value} (h : w.ownsRow base e size v n xs) (hb : base' ≤ base) : w.ownsRow base' e size v n xs := by
  refine ⟨h.1, ?_⟩
  rcases h.2 with h2 | ⟨g, cap, cur, h2, h3, h4⟩
  · exact .inl h2
  · exact .inr ⟨g, cap, cur, h2, Nat.le_trans hb h3, h4⟩
theorem down_div (x : Int) (k : Nat) : down x k = x / 2 ^ (8 * k) := by
  induction k generalizing x with
  | zero => simp [down]
  | succ k ih =>
    rw [down, ih, Int.ediv_ediv_of_nonneg (by omega)]
    congr 1
    rw [Nat.mul_succ, Int.pow_add]
    omega
theorem byte_down (x : Int) (k : Nat) : Value.int .u8 (x / 2 ^ (8 * k) % 256) = byteV (byteOf (down x k)) := by rw [byteOf_val, down_div]
theorem Own.start (w : World) : Own w [] (.slice none 0 0) w := ⟨World.ownsRow_nil _ _ _ _, Keep.refl _ _⟩
theorem Own.trans {w w1 w2 : World} {ys : List UInt8} {v : Value} (hk : Keep No w w1) (h : Own w1 ys v w2) : Own w ys v w2 :=
  ⟨ownsRow_weak h.1 hk.size, hk.trans h.2 (fun _ x => x.elim)⟩

set_option maxHeartbeats 400000 in
set_option maxRecDepth 100000 in
theorem rlittle_any (x : Int) (m : Int) (n : Nat) (hmn : m = (n : Int)) (w : World) (hx : 0 ≤ x) (hn : n ≤ 8) :
    Calls Try.prog 69 #[.int .u64 x, .int .i64 m] w (OwnRet w (lits x n)) := by
  subst hmn
  obtain ⟨i0, hi0, hz0, hz1, hz2⟩ := info_parts info_u8
  go_enter Try.func69, Try.ntmps69
  go_wp2
  go_loopw [5, 6] (fun v5 v6 wr => ∃ k : Nat, k ≤ n ∧ v6 = .int .i64 k ∧ Own w (lits x k) v5 wr) (fun _ i _ => n - (intOf i).toNat)
  case atStart => exact ⟨0, Nat.zero_le _, rfl, Own.start w⟩
  case round =>
    obtain ⟨k, hk, rfl, hI⟩ := hrel
    by_cases hlt : k < n
    · have hl : (lits x k).length ≤ 8 := by rw [lits_length]; omega
      go_wp2_with (at_builtin; refine wpList_append_any _ rfl (.tmp 12) (.tmp 18) _ rfl w.heap.size 5 i0 _ 1 1 Try.underlying23 hi0 hz0 hz1 hz2 rfl (by omega) _ _ _ rfl (hI.1.alloc _) w.heap.size _ 1 1 [byteV (byteOf (down x k))] rfl (reads_one wr 5 _ _ rfl (byte_down x k)) (by simp [byteV, Value.oneCell']) (by simp only [maxLen]; omega) (by omega) (by have := hI.lt; simp; omega) ?_; intro v1 w1 hown1 hg1 hat1; have hstep := (hI.alloc _).push (zs := [byteOf (down x k)]) hown1 rfl hg1)
      go_roundw
      case rel => exact ⟨k + 1, by omega, by go_num, by rw [lits_succ]; exact hstep⟩
      case measure => simp [intOf]; omega
    · have hkn : k = n := by omega
      subst hkn
      go_wp2
      go_ret
      obtain ⟨A, n', c, rfl, _⟩ := hI.shape
      exact ⟨A, n', c, rfl, hI⟩

theorem Own.next {w w1 w2 : World} {ys zs : List UInt8} {v u : Value} (h : Own w ys v w1) (k : Own w1 zs u w2) : Own w ys v w2 :=
  ⟨own_keep h.1 k.2 (fun _ _ x => x), h.2.trans k.2 (fun _ x => x.elim)⟩
theorem Own.num {w w1 : World} {ys : List UInt8} {A : Option Addr} {n c : Nat} (h : Own w ys (.slice A n c) w1) : n = ys.length := by
  obtain ⟨A', n', c', e, e'⟩ := h.shape
  injection e with _ e _; rw [e, e'.out]
theorem Own.reads {w w1 : World} {ys : List UInt8} {A : Option Addr} {n c base : Nat} (h : Own w ys (.slice A n c) w1) : Reads base w1 5 1 A n (byteVs ys) := h.bytes
theorem lits_one (x : Int) : lits x 1 = [byteOf x] := rfl

set_option maxHeartbeats 1000000 in
set_option maxRecDepth 100000 in
theorem rmark_any {b1 b2 : Nat} (seed left right : Int) (A B : Option Addr) (n c m d : Nat) (key value : List UInt8) (w : World) (hk : Bytes b1 w A n key) (hv : Bytes b2 w B m value)
    (hn : n ≤ 10000) (hm : m ≤ 10000) (hl : 0 ≤ left) (hr : 0 ≤ right) :
    Calls Try.prog 25 #[.int .u64 seed, .int .u64 left, .slice A n c, .slice B m d, .int .u64 right] w fun e w' => e = .returned (.int .u64 (mark seed left key value right)) ∧ Keep No w w' := by
  obtain ⟨i0, hi0, hz0, hz1, hz2⟩ := info_parts info_u8
  obtain rfl := hk.len
  obtain rfl := hv.len
  have HK := Lib.hid hk
  have HV := Lib.hid hv
  clear hk hv
  go_enter Try.func25, Try.ntmps25
  go_wp2_with fail
  refine (rlittle_any left 8 8 rfl w hl (by omega)).mono ?_
  rintro e w1 ⟨A1, n1, c1, rfl, O1⟩
  go_wp2_with fail
  refine (rlittle_any (key.length : Int) 1 1 rfl w1 (by omega) (by omega)).mono ?_
  rintro e w2 ⟨A2, n2, c2, rfl, P2⟩
  have O2 := O1.next P2
  go_wp2_with (first
    | (at_builtin; refine wpList_append_any _ rfl (.tmp 14) (.tmp 18) _ rfl w.heap.size 5 i0 _ 1 1 Try.underlying23 hi0 hz0 hz1 hz2 rfl (by omega) _ _ _ rfl O2.1 w.heap.size _ _ _ (byteVs (lits (key.length : Int) 1)) rfl P2.reads (byteVs_one _) (by rw [P2.num]; simp [maxLen, lits_length]) (by rw [P2.num]; simp [lits_length]) O2.lt ?_; intro v3 w3 hown3 hg3 _; have O3 := O2.push hown3 P2.num.symm hg3; clear hown3 hg3)
    | (at_builtin; refine wpList_append_any _ rfl (.tmp 20) (.tmp 21) _ rfl w.heap.size 5 i0 _ 1 1 Try.underlying23 hi0 hz0 hz1 hz2 rfl (by omega) _ _ _ rfl O3.1 b1 A key.length c (byteVs key) rfl (HK.out.new_ O3.2) (byteVs_one _) (by simp [maxLen, lits_length]; omega) (by simp [lits_length]; omega) O3.lt ?_; intro v4 w4 hown4 hg4 _; have O4 := O3.push hown4 rfl hg4; clear hown4 hg4))
  obtain ⟨A4, n4, c4, rfl, _⟩ := O4.shape
  refine (rlittle_any (value.length : Int) 2 2 rfl w4 (by omega) (by omega)).mono ?_
  rintro e w5 ⟨A5, n5, c5, rfl, P5⟩
  have O5 := O4.next P5
  go_wp2_with (first
    | (at_builtin; refine wpList_append_any _ rfl (.tmp 23) (.tmp 27) _ rfl w.heap.size 5 i0 _ 1 1 Try.underlying23 hi0 hz0 hz1 hz2 rfl (by omega) _ _ _ rfl O5.1 w.heap.size _ _ _ (byteVs (lits (value.length : Int) 2)) rfl P5.reads (byteVs_one _) (by rw [P5.num]; simp [maxLen, lits_length]; omega) (by rw [P5.num]; simp [lits_length]; omega) O5.lt ?_; intro v6 w6 hown6 hg6 _; have O6 := O5.push hown6 P5.num.symm hg6; clear hown6 hg6)
    | (at_builtin; refine wpList_append_any _ rfl (.tmp 29) (.tmp 30) _ rfl w.heap.size 5 i0 _ 1 1 Try.underlying23 hi0 hz0 hz1 hz2 rfl (by omega) _ _ _ rfl O6.1 b2 B value.length d (byteVs value) rfl (HV.out.new_ O6.2) (byteVs_one _) (by simp [maxLen, lits_length]; omega) (by simp [lits_length]; omega) O6.lt ?_; intro v7 w7 hown7 hg7 _; have O7 := O6.push hown7 rfl hg7; clear hown7 hg7))
  obtain ⟨A7, n7, c7, rfl, _⟩ := O7.shape
  refine (rlittle_any right 8 8 rfl w7 hr (by omega)).mono ?_
  rintro e w8 ⟨A8, n8, c8, rfl, P8⟩
  have O8 := O7.next P8
  go_wp2_with (at_builtin; refine wpList_append_any _ rfl (.tmp 32) (.tmp 34) _ rfl w.heap.size 5 i0 _ 1 1 Try.underlying23 hi0 hz0 hz1 hz2 rfl (by omega) _ _ _ rfl O8.1 w.heap.size _ _ _ (byteVs (lits right 8)) rfl P8.reads (byteVs_one _) (by rw [P8.num]; simp [maxLen, lits_length]; omega) (by rw [P8.num]; simp [lits_length]; omega) O8.lt ?_; intro v9 w9 hown9 hg9 _; have O9 := O8.push hown9 P8.num.symm hg9; clear hown9 hg9)
  obtain ⟨A9, n9, c9, rfl, _⟩ := O9.shape
  have hb := O9.bytes (base := 0)
  refine (rcoin_any seed 4 A9 n9 c9 _ w9 hb (by rw [← hb.len]; simp [lits_length]; omega)).mono ?_
  rintro e w10 ⟨rfl, rfl⟩
  go_wp2
  go_ret
  exact ⟨ret_u64 (by rw [mark, markBytes, lits_one (key.length : Int)]; simp), O9.2⟩

end Go.Proofs.Ytdmckjojeddaaaa
