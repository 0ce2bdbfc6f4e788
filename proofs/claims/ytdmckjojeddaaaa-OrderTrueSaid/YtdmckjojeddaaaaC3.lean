/- Contracts of order.digestOf and of amnestyref02.Mark: one coin of the same bytes. Conditions: each names its own. -/
import Derived.Test.YtdmckjojeddaaaaC2
namespace Go.Proofs.Ytdmckjojeddaaaa
open Go.RowKit Go.Proofs.YtdmckjojeddaaaaKit

/-- A row of bytes that the call has made, all of whose blocks are new since w. -/
def Own (w : World) (ys : List UInt8) (v : Value) (wr : World) : Prop := wr.ownsRow w.heap.size 5 1 v ys.length (byteVs ys) ∧ Keep No w wr

section
variable {w wr w1 : World} {v v1 : Value} {ys : List UInt8} {n : Nat}
theorem Own.made (hown : w1.ownsRow w.heap.size 5 1 v 0 []) (hg : w.grownBy w1 none) : Own w [] v w1 := ⟨hown, (Keep.refl _ _).grown hg (fun _ e => by cases e)⟩
theorem Own.alloc (h : Own w ys v wr) (o : Obj) : Own w ys v (wr.alloc o) := ⟨h.1.alloc o, h.2.alloc o⟩
theorem Own.push {zs : List UInt8} (h : Own w ys v wr) (h1 : w1.ownsRow w.heap.size 5 1 v1 (ys.length + n) (byteVs ys ++ byteVs zs)) (hl : zs.length = n) (hg : wr.grownBy w1 v.ownBlock) : Own w (ys ++ zs) v1 w1 := by
  subst hl
  refine ⟨by rw [byteVs_append, List.length_append]; exact h1, h.2.grown hg (fun k e => .inr ?_)⟩
  exact (World.ownsRow.lt h.1 k e).1
theorem Own.shape (h : Own w ys v wr) : ∃ A n c, v = .slice A n c ∧ Hid (n = ys.length) := by
  obtain ⟨A, c, e, _⟩ := own_slice h.1
  exact ⟨A, _, c, e, Lib.hid rfl⟩
theorem Own.bytes {A : Option Addr} {n c base : Nat} (h : Own w ys (.slice A n c) wr) : Bytes base wr A n ys := by
  have hn : ys.length = n := by
    obtain ⟨A', n', c', e, e'⟩ := h.shape
    injection e with _ e _; rw [e, e'.out]
  subst hn
  exact Bytes.of_own h.1
theorem Own.lt (h : Own w ys v wr) : w.heap.size ≤ wr.heap.size := h.2.size
end

/-- order.little onto a row of the call's own. -/
def OwnRet (w : World) (ys : List UInt8) (e : Ending) (w' : World) : Prop := ∃ A n c, e = .returned (.slice A n c) ∧ Own w ys (.slice A n c) w'
theorem little_own {w wr : World} {v : Value} {ys : List UInt8} (h : Own w ys v wr) (x k : Int) (n : Nat) (hk : k = (n : Int)) (hx : 0 ≤ x) (hm : ys.length ≤ 1000000) (hn : n ≤ 1000) :
    Calls Try.prog 90 #[v, .int .u64 x, .int .i64 k] wr (OwnRet w (ys ++ lits x n)) := by
  subst hk
  refine (little_any w.heap.size v ys.length ys x n wr h.lt h.1 hx hm hn).mono ?_
  rintro e w' ⟨A, c, rfl, hc, ho, hg, _⟩
  exact ⟨A, _, c, rfl, ho, h.2.grown hg (fun k e => .inr (World.ownsRow.lt h.1 k e).1)⟩

/-- The bytes of a node's digest. -/
def markBytes (left : Int) (key value : List UInt8) (right : Int) : List UInt8 :=
  lits left 8 ++ [byteOf (key.length : Int)] ++ key ++ lits (value.length : Int) 2 ++ value ++ lits right 8
def mark (seed left : Int) (key value : List UInt8) (right : Int) : Int := coin seed 4 (markBytes left key value right)

set_option maxHeartbeats 1000000 in
set_option maxRecDepth 100000 in
theorem digestOf_any {b1 b2 : Nat} (seed left right : Int) (A B : Option Addr) (n c m d : Nat) (key value : List UInt8) (w : World) (hk : Bytes b1 w A n key) (hv : Bytes b2 w B m value)
    (hn : n ≤ 10000) (hm : m ≤ 10000) (hl : 0 ≤ left) (hr : 0 ≤ right) :
    Calls Try.prog 60 #[.int .u64 seed, .int .u64 left, .slice A n c, .slice B m d, .int .u64 right] w fun e w' => e = .returned (.int .u64 (mark seed left key value right)) ∧ Keep No w w' := by
  obtain ⟨i0, hi0, hz0, hz1, hz2⟩ := info_parts info_u8
  obtain rfl := hk.len
  obtain rfl := hv.len
  have HK := Lib.hid hk
  have HV := Lib.hid hv
  clear hk hv
  have ll := lits_length left 8
  go_enter Try.func60, Try.ntmps60
  go_wp2_with (at_make; refine wpList_make_own _ rfl _ _ _ rfl w.heap.size 5 i0 _ 1 Try.underlying23 hi0 hz0 hz1 _ _ _ (19 + key.length + value.length) rfl rfl (by push_cast; omega) (by rw [hz2]; omega) (by simp only [maxLen]; omega) (Nat.le_refl _) ?_; intro w1 hown1 hg1; have O1 := Own.made hown1 hg1; clear hown1 hg1)
  refine (little_own O1 left 8 8 rfl hl (by simp) (by omega)).mono ?_
  rintro e w2 ⟨A2, n2, c2, rfl, O2⟩
  have l2 : ([] ++ lits left 8).length = 8 := by simp [ll]
  go_wp2_with (first
    | (at_builtin; refine wpList_append_any _ rfl (.tmp 22) (.tmp 26) _ rfl w.heap.size 5 i0 _ 1 1 Try.underlying23 hi0 hz0 hz1 hz2 rfl (by omega) _ _ _ rfl (O2.1.alloc _) w.heap.size _ 1 1 [byteV (byteOf (key.length : Int))] rfl (reads_one _ 5 _ _ rfl (byteOf_val _)) (by simp [byteV, Value.oneCell']) (by simp only [maxLen]; omega) (by omega) (by have := O2.lt; simp; omega) ?_; intro v3 w3 hown3 hg3 _; have O3 := (O2.alloc _).push (zs := [byteOf (key.length : Int)]) hown3 rfl hg3; clear hown3 hg3)
    | (at_builtin; refine wpList_append_any _ rfl (.tmp 27) (.tmp 28) _ rfl w.heap.size 5 i0 _ 1 1 Try.underlying23 hi0 hz0 hz1 hz2 rfl (by omega) _ _ _ rfl O3.1 b1 A key.length c (byteVs key) rfl (HK.out.new_ O3.2) (byteVs_one _) (by simp [maxLen, lits_length]; omega) (by simp [lits_length]; omega) O3.lt ?_; intro v4 w4 hown4 hg4 _; have O4 := O3.push (zs := key) hown4 rfl hg4; clear hown4 hg4))
  obtain ⟨A4, n4, c4, rfl, _⟩ := O4.shape
  refine (little_own O4 (value.length : Int) 2 2 rfl (by omega) (by simp [lits_length]; omega) (by omega)).mono ?_
  rintro e w5 ⟨A5, n5, c5, rfl, O5⟩
  go_wp2_with (at_builtin; refine wpList_append_any _ rfl (.tmp 34) (.tmp 35) _ rfl w.heap.size 5 i0 _ 1 1 Try.underlying23 hi0 hz0 hz1 hz2 rfl (by omega) _ _ _ rfl O5.1 b2 B value.length d (byteVs value) rfl (HV.out.new_ O5.2) (byteVs_one _) (by simp [maxLen, lits_length]; omega) (by simp [lits_length]; omega) O5.lt ?_; intro v6 w6 hown6 hg6 _; have O6 := O5.push (zs := value) hown6 rfl hg6; clear hown6 hg6)
  refine (little_own O6 right 8 8 rfl hr (by simp [lits_length]; omega) (by omega)).mono ?_
  rintro e w7 ⟨A7, n7, c7, rfl, O7⟩
  go_wp2_with fail
  have hb := O7.bytes (base := 0)
  refine (coin_any seed 4 A7 n7 c7 _ w7 hb (by rw [← hb.len]; simp [lits_length]; omega)).mono ?_
  rintro e w8 ⟨rfl, rfl⟩
  go_wp2
  go_ret
  exact ⟨ret_u64 (by rw [mark, markBytes]; simp), O7.2⟩

end Go.Proofs.Ytdmckjojeddaaaa
