/- Contracts of the small functions on bytes: bytes.Compare, bytes.Clone, order.little, slots.Coin, order.digestOf. Conditions: each names its own. -/
import Derived.Test.YtdmckjojeddaaaaProg
import Derived.Test.YtdmckjojeddaaaaKit
namespace Go.Proofs.Ytdmckjojeddaaaa
open Go.RowKit Go.Proofs.YtdmckjojeddaaaaKit

theorem info_u8 : (Try.prog.info? 5).map (fun i => (i.zero, i.size, i.bytes)) = some (some (.int .u8 0), 1, 1) := by kernel_rfl

set_option maxHeartbeats 400000 in
set_option maxRecDepth 100000 in
theorem bcompare {b1 b2 : Nat} (A B : Option Addr) (n c m d : Nat) (xs ys : List UInt8) (w : World) (h : Bytes b1 w A n xs) (k : Bytes b2 w B m ys) :
    Calls Try.prog 61 #[.slice A n c, .slice B m d] w fun e w' => e = .returned (.int .i64 (Lib.compareBytes xs ys)) ∧ w = w' := by
  have hr := Lib.hid (run_compare (P := Try.prog) (c := c) (d := d) h k)
  have H := Lib.hid h
  have K := Lib.hid k
  clear h k
  go_enter Try.func61, Try.ntmps61
  go_wp2_with fail
  rw [run_callFunc_extern Try.func96 (by kernel_rfl) (by kernel_rfl) (by kernel_rfl) (e := Extern.BytealgCompare.compare) (by kernel_rfl), hr.out]
  simp only [Result.andThen]
  rw [Oper.upon_value]
  go_wp2
  go_ret
  exact ⟨rfl, rfl⟩

/-- What a Clone hands back. -/
def Cloned (w : World) (bs : List UInt8) (e : Ending) (w' : World) : Prop :=
  ∃ A c, e = .returned (.slice A bs.length c) ∧ bs.length ≤ c ∧ w'.ownsRow w.heap.size 5 1 (.slice A bs.length c) bs.length (byteVs bs) ∧ Keep No w w'

theorem own_slice {w : World} {base e size n : Nat} {v : Value} {xs : List Value} (h : w.ownsRow base e size v n xs) : ∃ A c, v = .slice A n c ∧ n ≤ c := by
  rcases h.2 with ⟨rfl, h0⟩ | ⟨g, cap, cur, rfl, _, _, hnc, _⟩
  · subst h0; exact ⟨none, 0, rfl, Nat.le_refl _⟩
  · exact ⟨_, _, rfl, hnc⟩

theorem cloned_of {w w1 : World} {v : Value} {n : Nat} {bs : List UInt8} {o : Obj} (h : w1.ownsRow w.heap.size 5 1 v (0 + n) ([] ++ byteVs bs)) (hg : (w.alloc o).grownBy w1 (some w.heap.size)) (hl : bs.length = n) : Cloned w bs (.returned v) w1 := by
  rw [Nat.zero_add, List.nil_append] at h
  subst hl
  obtain ⟨A, c, rfl, hc⟩ := own_slice h
  exact ⟨A, c, rfl, hc, h, ((Keep.refl No w).alloc o).grown hg (fun k e => by injection e with e; exact .inr (by omega))⟩

theorem own_empty {w : World} {base e size : Nat} (hb : base ≤ w.heap.size) : (w.alloc (.cells #[] e)).ownsRow base e size (.slice (some ⟨w.heap.size, 0, none⟩) 0 0) 0 [] :=
  World.ownsRow_made w #[] 0 hb (Nat.zero_le _) (by simp)

set_option maxHeartbeats 400000 in
set_option maxRecDepth 100000 in
theorem bclone {base : Nat} (A : Option Addr) (n c : Nat) (bs : List UInt8) (w : World) (h : Bytes base w A n bs) (hn : n ≤ 1000000) :
    Calls Try.prog 62 #[.slice A n c] w (Cloned w bs) := by
  obtain ⟨i0, hi0, hz0, hz1, hz2⟩ := info_parts info_u8
  have hl := Lib.hid h.len
  have H := Lib.hid h
  cases A with
  | none =>
    have h0 : n = 0 := by
      rcases Nat.eq_zero_or_pos n with h0 | h0
      · exact h0
      · obtain ⟨ad, e, _⟩ := h.2 h0
        cases e
    subst h0
    have : bs = [] := List.eq_nil_of_length_eq_zero h.len
    subst this
    clear h H hl
    have hq := Lib.run_eql_slice_nil (P := Try.prog) w 23 5 none 0 c 0 0 Try.underlying23
    go_enter Try.func62, Try.ntmps62
    go_wp2
    go_ret
    exact ⟨none, 0, rfl, Nat.le_refl _, World.ownsRow_nil _ _ _ _, Keep.refl _ _⟩
  | some ad =>
    clear h
    have hq := Lib.run_eql_slice_nil (P := Try.prog) w 23 5 (some ad) n c 0 0 Try.underlying23
    go_enter Try.func62, Try.ntmps62
    go_wp2_with (at_builtin; refine wpList_append_any _ rfl (.tmp 5) (.tmp 6) _ rfl w.heap.size 5 i0 _ 1 1 Try.underlying23 hi0 hz0 hz1 hz2 rfl (by omega) _ 0 [] rfl (own_empty (Nat.le_refl _)) base (some ad) n c (byteVs bs) rfl (Reads.alloc H.out _) (byteVs_one bs) (by simp only [maxLen]; omega) (by omega) (by simp) ?_; intro v1 w1 hown1 hg1 hat1)
    go_ret
    exact cloned_of hown1 hg1 hl.out

/-! ### order.little -/
def byteOf (x : Int) : UInt8 := UInt8.ofNat (x % 256).toNat
theorem byteOf_toNat (x : Int) : ((byteOf x).toNat : Int) = x % 256 := by
  unfold byteOf
  have h0 : 0 ≤ x % 256 := Int.emod_nonneg _ (by omega)
  have h1 : x % 256 < 256 := Int.emod_lt_of_pos _ (by omega)
  rw [UInt8.toNat_ofNat']
  omega
def lits : Int → Nat → List UInt8
  | _, 0 => []
  | x, n + 1 => byteOf x :: lits (x / 256) n
theorem lits_length (x : Int) (n : Nat) : (lits x n).length = n := by
  induction n generalizing x with
  | zero => rfl
  | succ n ih => simp [lits, ih]
def down (x : Int) : Nat → Int
  | 0 => x
  | n + 1 => down (x / 256) n
theorem down_succ (x : Int) (n : Nat) : down x (n + 1) = down x n / 256 := by
  induction n generalizing x with
  | zero => rfl
  | succ n ih => rw [down, ih]; rfl
theorem down_nonneg (x : Int) (n : Nat) (h : 0 ≤ x) : 0 ≤ down x n := by
  induction n generalizing x with
  | zero => exact h
  | succ n ih => exact ih _ (by omega)
theorem lits_succ (x : Int) (n : Nat) : lits x (n + 1) = lits x n ++ [byteOf (down x n)] := by
  induction n generalizing x with
  | zero => rfl
  | succ n ih => rw [lits, ih]; rfl

/-- An owned row has been appended to: what stands behind. -/
def Appended (w : World) (base : Nat) (v : Value) (ys : List UInt8) (e : Ending) (w' : World) : Prop :=
  ∃ A c, e = .returned (.slice A ys.length c) ∧ ys.length ≤ c ∧ w'.ownsRow base 5 1 (.slice A ys.length c) ys.length (byteVs ys) ∧ w.grownBy w' v.ownBlock ∧ (∀ k, (Value.slice A ys.length c).ownBlock = some k → v.ownBlock = some k ∨ w.heap.size ≤ k)

def LI (w : World) (base : Nat) (v : Value) (ys : List UInt8) (v0 : Value) (wr : World) : Prop :=
  wr.ownsRow base 5 1 v0 ys.length (byteVs ys) ∧ w.grownBy wr v.ownBlock ∧ (∀ k, v0.ownBlock = some k → v.ownBlock = some k ∨ w.heap.size ≤ k)
theorem reads_one (w : World) (t : TypeId) (v u : Value) (ht : mutTy t = false) (h : v = u) {base : Nat} : Reads base (w.alloc (.cells #[v] t)) t 1 (some ⟨w.heap.size, 0, none⟩) 1 [u] := by
  subst h
  refine ⟨rfl, fun _ => ⟨_, rfl, (Blk.new w t #[v]).imm ht, fun j u hu => ?_⟩⟩
  cases j with
  | zero => simp at hu; subst hu; exact (Blk.new w t #[v]).cell 0
  | succ j => simp at hu
theorem byteOf_val (x : Int) : Value.int .u8 (x % 256) = byteV (byteOf x) := by rw [byteV, byteOf_toNat]
theorem LI.push {w wr w1 : World} {base : Nat} {v v0 v1 : Value} {ys : List UInt8} {b : UInt8} {o : Obj} (h : LI w base v ys v0 wr)
    (h1 : w1.ownsRow base 5 1 v1 (ys.length + 1) (byteVs ys ++ [byteV b])) (hg : (wr.alloc o).grownBy w1 v0.ownBlock) (hat : v1.ownBlock = v0.ownBlock ∨ v1.ownBlock = some (wr.alloc o).heap.size) : LI w base v (ys ++ [b]) v1 w1 := by
  obtain ⟨h2, h3, h4⟩ := h
  refine ⟨by rw [byteVs_append, List.length_append]; exact h1, ?_, fun k e => ?_⟩
  · exact ⟨hg.os.trans h3.os, hg.tape.trans h3.tape, hg.output.trans h3.output, by have := hg.size; have := h3.size; simp at *; omega, fun k hk hn => by
      have hz := h3.size
      rw [hg.block k (by simp; omega) (fun e => by
        rcases h4 k e.symm with h5 | h5
        · exact hn h5.symm
        · omega), Below.heap_alloc _ _ _ (by omega), h3.block k hk hn]⟩
  · rcases hat with h5 | h5
    · exact h4 k (h5 ▸ e)
    · rw [h5] at e; injection e with e; have := h3.size; simp at e; exact .inr (by omega)
theorem LI.appended {w wr : World} {base : Nat} {v v0 : Value} {ys : List UInt8} (h : LI w base v ys v0 wr) : Appended w base v ys (.returned v0) wr := by
  obtain ⟨h1, h2, h3⟩ := h
  obtain ⟨A, c, rfl, hc⟩ := own_slice h1
  exact ⟨A, c, rfl, hc, h1, h2, h3⟩

set_option maxHeartbeats 400000 in
set_option maxRecDepth 100000 in
theorem little_any (base : Nat) (v : Value) (m : Nat) (bs : List UInt8) (x : Int) (n : Nat) (w : World) (hb : base ≤ w.heap.size) (h : w.ownsRow base 5 1 v m (byteVs bs)) (hx : 0 ≤ x) (hm : m ≤ 1000000) (hn : n ≤ 1000) :
    Calls Try.prog 90 #[v, .int .u64 x, .int .i64 n] w (Appended w base v (bs ++ lits x n)) := by
  obtain ⟨i0, hi0, hz0, hz1, hz2⟩ := info_parts info_u8
  have H := Lib.hid h
  clear h
  go_enter Try.func90, Try.ntmps90
  go_wp2
  go_loopw [0, 1, 8] (fun v0 v1 v8 wr => ∃ k : Nat, k ≤ n ∧ v8 = .int .i64 k ∧ v1 = .int .u64 (down x k) ∧ LI w base v (bs ++ lits x k) v0 wr) (fun _ _ i _ => n - (intOf i).toNat)
  case atStart =>
    have hl : m = bs.length := by have := H.out.1; rw [byteVs_length] at this; omega
    subst hl
    exact ⟨0, Nat.zero_le _, rfl, rfl, by rw [lits, List.append_nil]; exact ⟨H.out, World.grownBy.refl _ _, fun k e => .inl e⟩⟩
  case round =>
    obtain ⟨k, hk, rfl, rfl, hI⟩ := hrel
    have hl : (bs ++ lits x k).length ≤ 1001000 := by
      have := H.out.1; rw [byteVs_length] at this; rw [List.length_append, lits_length]; omega
    by_cases hlt : k < n
    · have hd := down_nonneg x k hx
      have hbw := Nat.le_trans hb hI.2.1.size
      go_wp2_with (at_builtin; refine wpList_append_any _ rfl (.tmp 10) (.tmp 13) _ rfl base 5 i0 _ 1 1 Try.underlying23 hi0 hz0 hz1 hz2 rfl (by omega) _ _ _ rfl (hI.1.alloc _) base _ 1 1 [byteV (byteOf (down x k))] rfl (reads_one wr 5 _ _ rfl (byteOf_val _)) (by simp [byteV, Value.oneCell']) (by simp only [maxLen]; omega) (by omega) (by simp; omega) ?_; intro v1 w1 hown1 hg1 hat1; have hstep := hI.push hown1 hg1 hat1)
      go_roundw
      case rel => exact ⟨k + 1, by omega, by go_num, by rw [down_succ], by rw [lits_succ, ← List.append_assoc]; exact hstep⟩
      case measure => simp [intOf]; omega
    · have hkn : k = n := by omega
      subst hkn
      go_wp2
      go_ret
      exact hI.appended

end Go.Proofs.Ytdmckjojeddaaaa

namespace Go.Proofs.Ytdmckjojeddaaaa
open Go.RowKit Go.Proofs.YtdmckjojeddaaaaKit

def coinStep (h : Int) (b : UInt8) : Int := IntKind.u64.wrap (Go.bits .xor .u64 h (IntKind.u64.wrap (b.toNat : Int)) * 1099511628211)
def coinFrom (seed tag : Int) : Int := IntKind.u64.wrap (seed + IntKind.u64.wrap (IntKind.u64.wrap (IntKind.u64.wrap tag + 1) * 11400714819323198485))
def coinMix (h : Int) : Int :=
  let a := IntKind.u64.wrap (Go.bits .xor .u64 h (h / 1073741824) * 13787848793156543929)
  let b := IntKind.u64.wrap (Go.bits .xor .u64 a (a / 134217728) * 10723151780598845931)
  Go.bits .xor .u64 b (b / 2147483648)
def coin (seed tag : Int) (bs : List UInt8) : Int := coinMix (Go.bits .xor .u64 (bs.foldl coinStep (coinFrom seed tag)) (bs.length : Int))

theorem fold_succ {α : Type} {f : α → UInt8 → α} {a : α} (bs : List UInt8) (k : Nat) (h : k < bs.length) : (bs.take (k + 1)).foldl f a = f ((bs.take k).foldl f a) bs[k] := by
  rw [List.take_succ_eq_append_getElem h, List.foldl_append]
  rfl
theorem ret_u64 {k : IntKind} {a b : Int} (h : a = b) : Ending.returned (.int k a) = .returned (.int k b) := by rw [h]
set_option maxHeartbeats 400000 in
set_option maxRecDepth 100000 in
theorem coin_any {base : Nat} (seed tag : Int) (A : Option Addr) (n c : Nat) (bs : List UInt8) (w : World) (h : Bytes base w A n bs) (hn : n ≤ 1000000) :
    Calls Try.prog 83 #[.int .u64 seed, .int .i64 tag, .slice A n c] w fun e w' => e = .returned (.int .u64 (coin seed tag bs)) ∧ w = w' := by
  obtain rfl := h.len
  have H := Lib.hid h
  clear h
  go_enter Try.func83, Try.ntmps83
  go_wp2
  go_loop [7, 18] (fun v7 v18 => ∃ k : Nat, k ≤ bs.length ∧ v18 = .int .i64 k ∧ v7 = .int .u64 ((bs.take k).foldl coinStep (coinFrom seed tag))) (fun _ i => bs.length - (intOf i).toNat)
  case atStart => exact ⟨0, Nat.zero_le _, rfl, rfl⟩
  case round =>
    obtain ⟨k, hk, rfl, rfl⟩ := hrel
    by_cases hlt : k < bs.length
    · obtain ⟨ad, rfl, hc⟩ := H.out.at_ hlt
      go_wp2
      go_round
      case rel => exact ⟨k + 1, by omega, by go_num, by rw [fold_succ bs k hlt, coinStep]⟩
      case measure => simp [intOf]; omega
    · have hkn : k = bs.length := by omega
      subst hkn
      go_wp2
      go_ret
      refine ⟨ret_u64 ?_, rfl⟩
      rw [coin, coinMix]

set_option maxHeartbeats 400000 in
set_option maxRecDepth 100000 in
theorem rcoin_any {base : Nat} (seed tag : Int) (A : Option Addr) (n c : Nat) (bs : List UInt8) (w : World) (h : Bytes base w A n bs) (hn : n ≤ 1000000) :
    Calls Try.prog 23 #[.int .u64 seed, .int .i64 tag, .slice A n c] w fun e w' => e = .returned (.int .u64 (coin seed tag bs)) ∧ w = w' := by
  obtain rfl := h.len
  have H := Lib.hid h
  clear h
  go_enter Try.func23, Try.ntmps23
  go_wp2
  go_loop [7, 8] (fun v7 v18 => ∃ k : Nat, k ≤ bs.length ∧ v18 = .int .i64 k ∧ v7 = .int .u64 ((bs.take k).foldl coinStep (coinFrom seed tag))) (fun _ i => bs.length - (intOf i).toNat)
  case atStart => exact ⟨0, Nat.zero_le _, rfl, rfl⟩
  case round =>
    obtain ⟨k, hk, rfl, rfl⟩ := hrel
    by_cases hlt : k < bs.length
    · obtain ⟨ad, rfl, hc⟩ := H.out.at_ hlt
      go_wp2
      go_round
      case rel => exact ⟨k + 1, by omega, by go_num, by rw [fold_succ bs k hlt, coinStep]⟩
      case measure => simp [intOf]; omega
    · have hkn : k = bs.length := by omega
      subst hkn
      go_wp2
      go_ret
      refine ⟨ret_u64 ?_, rfl⟩
      rw [coin, coinMix]

end Go.Proofs.Ytdmckjojeddaaaa

namespace Go.Proofs.Ytdmckjojeddaaaa
open Go.RowKit Go.Proofs.YtdmckjojeddaaaaKit

/-- A row of bytes that the call has made, all of whose blocks are new since w. -/
def Own (w : World) (ys : List UInt8) (v : Value) (wr : World) : Prop := wr.ownsRow w.heap.size 5 1 v ys.length (byteVs ys) ∧ Keep No w wr

section
variable {w wr w1 : World} {v v1 : Value} {ys : List UInt8} {n : Nat}
theorem Own.made (hown : w1.ownsRow w.heap.size 5 1 v 0 []) (hg : w.grownBy w1 none) : Own w [] v w1 := ⟨hown, (Keep.refl _ _).grown hg (fun _ e => by cases e)⟩
theorem Own.alloc (h : Own w ys v wr) (o : Obj) : Own w ys v (wr.alloc o) := ⟨h.1.alloc o, h.2.alloc o⟩
theorem Own.push {zs : List UInt8} (h : Own w ys v wr) (h1 : w1.ownsRow w.heap.size 5 1 v1 (ys.length + n) (byteVs ys ++ byteVs zs)) (hl : zs.length = n) (hg : wr.grownBy w1 v.ownBlock) : Own w (ys ++ zs) v1 w1 := by
  subst hl
  refine ⟨by rw [byteVs_append, List.length_append]; exact h1, h.2.grown hg (fun k e => .inr ?_)⟩
  exact (World.ownsRow.lt h.1 k e).1
theorem Own.shape (h : Own w ys v wr) : ∃ A n c, v = .slice A n c ∧ Hid (n = ys.length) := by
  obtain ⟨A, c, e, _⟩ := own_slice h.1
  exact ⟨A, _, c, e, Lib.hid rfl⟩
theorem Own.bytes {A : Option Addr} {n c base : Nat} (h : Own w ys (.slice A n c) wr) : Bytes base wr A n ys := by
  have hn : ys.length = n := by
    obtain ⟨A', n', c', e, e'⟩ := h.shape
    injection e with _ e _; rw [e, e'.out]
  subst hn
  exact Bytes.of_own h.1
theorem Own.lt (h : Own w ys v wr) : w.heap.size ≤ wr.heap.size := h.2.size
end

/-- order.little onto a row of the call's own. -/
def OwnRet (w : World) (ys : List UInt8) (e : Ending) (w' : World) : Prop := ∃ A n c, e = .returned (.slice A n c) ∧ Own w ys (.slice A n c) w'
theorem little_own {w wr : World} {v : Value} {ys : List UInt8} (h : Own w ys v wr) (x k : Int) (n : Nat) (hk : k = (n : Int)) (hx : 0 ≤ x) (hm : ys.length ≤ 1000000) (hn : n ≤ 1000) :
    Calls Try.prog 90 #[v, .int .u64 x, .int .i64 k] wr (OwnRet w (ys ++ lits x n)) := by
  subst hk
  refine (little_any w.heap.size v ys.length ys x n wr h.lt h.1 hx hm hn).mono ?_
  rintro e w' ⟨A, c, rfl, hc, ho, hg, _⟩
  exact ⟨A, _, c, rfl, ho, h.2.grown hg (fun k e => .inr (World.ownsRow.lt h.1 k e).1)⟩

/-- The bytes of a node's digest. -/
def markBytes (left : Int) (key value : List UInt8) (right : Int) : List UInt8 :=
  lits left 8 ++ [byteOf (key.length : Int)] ++ key ++ lits (value.length : Int) 2 ++ value ++ lits right 8
def mark (seed left : Int) (key value : List UInt8) (right : Int) : Int := coin seed 4 (markBytes left key value right)

set_option maxHeartbeats 1000000 in
set_option maxRecDepth 100000 in
theorem digestOf_any {b1 b2 : Nat} (seed left right : Int) (A B : Option Addr) (n c m d : Nat) (key value : List UInt8) (w : World) (hk : Bytes b1 w A n key) (hv : Bytes b2 w B m value)
    (hn : n ≤ 10000) (hm : m ≤ 10000) (hl : 0 ≤ left) (hr : 0 ≤ right) :
    Calls Try.prog 60 #[.int .u64 seed, .int .u64 left, .slice A n c, .slice B m d, .int .u64 right] w fun e w' => e = .returned (.int .u64 (mark seed left key value right)) ∧ Keep No w w' := by
  obtain ⟨i0, hi0, hz0, hz1, hz2⟩ := info_parts info_u8
  obtain rfl := hk.len
  obtain rfl := hv.len
  have HK := Lib.hid hk
  have HV := Lib.hid hv
  clear hk hv
  have ll := lits_length left 8
  go_enter Try.func60, Try.ntmps60
  go_wp2_with (at_make; refine wpList_make_own _ rfl _ _ _ rfl w.heap.size 5 i0 _ 1 Try.underlying23 hi0 hz0 hz1 _ _ _ (19 + key.length + value.length) rfl rfl (by push_cast; omega) (by rw [hz2]; omega) (by simp only [maxLen]; omega) (Nat.le_refl _) ?_; intro w1 hown1 hg1; have O1 := Own.made hown1 hg1; clear hown1 hg1)
  refine (little_own O1 left 8 8 rfl hl (by simp) (by omega)).mono ?_
  rintro e w2 ⟨A2, n2, c2, rfl, O2⟩
  have l2 : ([] ++ lits left 8).length = 8 := by simp [ll]
  go_wp2_with (first
    | (at_builtin; refine wpList_append_any _ rfl (.tmp 22) (.tmp 26) _ rfl w.heap.size 5 i0 _ 1 1 Try.underlying23 hi0 hz0 hz1 hz2 rfl (by omega) _ _ _ rfl (O2.1.alloc _) w.heap.size _ 1 1 [byteV (byteOf (key.length : Int))] rfl (reads_one _ 5 _ _ rfl (byteOf_val _)) (by simp [byteV, Value.oneCell']) (by simp only [maxLen]; omega) (by omega) (by have := O2.lt; simp; omega) ?_; intro v3 w3 hown3 hg3 _; have O3 := (O2.alloc _).push (zs := [byteOf (key.length : Int)]) hown3 rfl hg3; clear hown3 hg3)
    | (at_builtin; refine wpList_append_any _ rfl (.tmp 27) (.tmp 28) _ rfl w.heap.size 5 i0 _ 1 1 Try.underlying23 hi0 hz0 hz1 hz2 rfl (by omega) _ _ _ rfl O3.1 b1 A key.length c (byteVs key) rfl (HK.out.new_ O3.2) (byteVs_one _) (by simp [maxLen, lits_length]; omega) (by simp [lits_length]; omega) O3.lt ?_; intro v4 w4 hown4 hg4 _; have O4 := O3.push (zs := key) hown4 rfl hg4; clear hown4 hg4))
  obtain ⟨A4, n4, c4, rfl, _⟩ := O4.shape
  refine (little_own O4 (value.length : Int) 2 2 rfl (by omega) (by simp [lits_length]; omega) (by omega)).mono ?_
  rintro e w5 ⟨A5, n5, c5, rfl, O5⟩
  go_wp2_with (at_builtin; refine wpList_append_any _ rfl (.tmp 34) (.tmp 35) _ rfl w.heap.size 5 i0 _ 1 1 Try.underlying23 hi0 hz0 hz1 hz2 rfl (by omega) _ _ _ rfl O5.1 b2 B value.length d (byteVs value) rfl (HV.out.new_ O5.2) (byteVs_one _) (by simp [maxLen, lits_length]; omega) (by simp [lits_length]; omega) O5.lt ?_; intro v6 w6 hown6 hg6 _; have O6 := O5.push (zs := value) hown6 rfl hg6; clear hown6 hg6)
  refine (little_own O6 right 8 8 rfl hr (by simp [lits_length]; omega) (by omega)).mono ?_
  rintro e w7 ⟨A7, n7, c7, rfl, O7⟩
  go_wp2_with fail
  have hb := O7.bytes (base := 0)
  refine (coin_any seed 4 A7 n7 c7 _ w7 hb (by rw [← hb.len]; simp [lits_length]; omega)).mono ?_
  rintro e w8 ⟨rfl, rfl⟩
  go_wp2
  go_ret
  exact ⟨ret_u64 (by rw [mark, markBytes]; simp), O7.2⟩

end Go.Proofs.Ytdmckjojeddaaaa

namespace Go.Proofs.Ytdmckjojeddaaaa
open Go.RowKit Go.Proofs.YtdmckjojeddaaaaKit

theorem ownsRow_weak {w : World} {base base' e size n : Nat} {v : Value} {xs : List Value} (h : w.ownsRow base e size v n xs) (hb : base' ≤ base) : w.ownsRow base' e size v n xs := by
  refine ⟨h.1, ?_⟩
  rcases h.2 with h2 | ⟨g, cap, cur, h2, h3, h4⟩
  · exact .inl h2
  · exact .inr ⟨g, cap, cur, h2, Nat.le_trans hb h3, h4⟩
theorem down_div (x : Int) (k : Nat) : down x k = x / 2 ^ (8 * k) := by
  induction k generalizing x with
  | zero => simp [down]
  | succ k ih =>
    rw [down, ih, Int.ediv_ediv_of_nonneg (by omega)]
    congr 1
    rw [Nat.mul_succ, Int.pow_add]
    omega
theorem byte_down (x : Int) (k : Nat) : Value.int .u8 (x / 2 ^ (8 * k) % 256) = byteV (byteOf (down x k)) := by rw [byteOf_val, down_div]
theorem Own.start (w : World) : Own w [] (.slice none 0 0) w := ⟨World.ownsRow_nil _ _ _ _, Keep.refl _ _⟩
theorem Own.trans {w w1 w2 : World} {ys : List UInt8} {v : Value} (hk : Keep No w w1) (h : Own w1 ys v w2) : Own w ys v w2 :=
  ⟨ownsRow_weak h.1 hk.size, hk.trans h.2 (fun _ x => x.elim)⟩

set_option maxHeartbeats 400000 in
set_option maxRecDepth 100000 in
theorem rlittle_any (x : Int) (m : Int) (n : Nat) (hmn : m = (n : Int)) (w : World) (_hx : 0 ≤ x) (hn : n ≤ 8) :
    Calls Try.prog 69 #[.int .u64 x, .int .i64 m] w (OwnRet w (lits x n)) := by
  subst hmn
  obtain ⟨i0, hi0, hz0, hz1, hz2⟩ := info_parts info_u8
  go_enter Try.func69, Try.ntmps69
  go_wp2
  go_loopw [5, 6] (fun v5 v6 wr => ∃ k : Nat, k ≤ n ∧ v6 = .int .i64 k ∧ Own w (lits x k) v5 wr) (fun _ i _ => n - (intOf i).toNat)
  case atStart => exact ⟨0, Nat.zero_le _, rfl, Own.start w⟩
  case round =>
    obtain ⟨k, hk, rfl, hI⟩ := hrel
    by_cases hlt : k < n
    · have hl : (lits x k).length ≤ 8 := by rw [lits_length]; omega
      go_wp2_with (at_builtin; refine wpList_append_any _ rfl (.tmp 12) (.tmp 18) _ rfl w.heap.size 5 i0 _ 1 1 Try.underlying23 hi0 hz0 hz1 hz2 rfl (by omega) _ _ _ rfl (hI.1.alloc _) w.heap.size _ 1 1 [byteV (byteOf (down x k))] rfl (reads_one wr 5 _ _ rfl (byte_down x k)) (by simp [byteV, Value.oneCell']) (by simp only [maxLen]; omega) (by omega) (by have := hI.lt; simp; omega) ?_; intro v1 w1 hown1 hg1 hat1; have hstep := (hI.alloc _).push (zs := [byteOf (down x k)]) hown1 rfl hg1)
      go_roundw
      case rel => exact ⟨k + 1, by omega, by go_num, by rw [lits_succ]; exact hstep⟩
      case measure => simp [intOf]; omega
    · have hkn : k = n := by omega
      subst hkn
      go_wp2
      go_ret
      obtain ⟨A, n', c, rfl, _⟩ := hI.shape
      exact ⟨A, n', c, rfl, hI⟩

theorem Own.next {w w1 w2 : World} {ys zs : List UInt8} {v u : Value} (h : Own w ys v w1) (k : Own w1 zs u w2) : Own w ys v w2 :=
  ⟨own_keep h.1 k.2 (fun _ _ x => x), h.2.trans k.2 (fun _ x => x.elim)⟩
theorem Own.num {w w1 : World} {ys : List UInt8} {A : Option Addr} {n c : Nat} (h : Own w ys (.slice A n c) w1) : n = ys.length := by
  obtain ⟨A', n', c', e, e'⟩ := h.shape
  injection e with _ e _; rw [e, e'.out]
theorem Own.reads {w w1 : World} {ys : List UInt8} {A : Option Addr} {n c base : Nat} (h : Own w ys (.slice A n c) w1) : Reads base w1 5 1 A n (byteVs ys) := h.bytes
theorem lits_one (x : Int) : lits x 1 = [byteOf x] := rfl

set_option maxHeartbeats 1000000 in
set_option maxRecDepth 100000 in
theorem rmark_any {b1 b2 : Nat} (seed left right : Int) (A B : Option Addr) (n c m d : Nat) (key value : List UInt8) (w : World) (hk : Bytes b1 w A n key) (hv : Bytes b2 w B m value)
    (hn : n ≤ 10000) (hm : m ≤ 10000) (hl : 0 ≤ left) (hr : 0 ≤ right) :
    Calls Try.prog 25 #[.int .u64 seed, .int .u64 left, .slice A n c, .slice B m d, .int .u64 right] w fun e w' => e = .returned (.int .u64 (mark seed left key value right)) ∧ Keep No w w' := by
  obtain ⟨i0, hi0, hz0, hz1, hz2⟩ := info_parts info_u8
  obtain rfl := hk.len
  obtain rfl := hv.len
  have HK := Lib.hid hk
  have HV := Lib.hid hv
  clear hk hv
  go_enter Try.func25, Try.ntmps25
  go_wp2_with fail
  refine (rlittle_any left 8 8 rfl w hl (by omega)).mono ?_
  rintro e w1 ⟨A1, n1, c1, rfl, O1⟩
  go_wp2_with fail
  refine (rlittle_any (key.length : Int) 1 1 rfl w1 (by omega) (by omega)).mono ?_
  rintro e w2 ⟨A2, n2, c2, rfl, P2⟩
  have O2 := O1.next P2
  go_wp2_with (first
    | (at_builtin; refine wpList_append_any _ rfl (.tmp 14) (.tmp 18) _ rfl w.heap.size 5 i0 _ 1 1 Try.underlying23 hi0 hz0 hz1 hz2 rfl (by omega) _ _ _ rfl O2.1 w.heap.size _ _ _ (byteVs (lits (key.length : Int) 1)) rfl P2.reads (byteVs_one _) (by rw [P2.num]; simp [maxLen, lits_length]) (by rw [P2.num]; simp [lits_length]) O2.lt ?_; intro v3 w3 hown3 hg3 _; have O3 := O2.push hown3 P2.num.symm hg3; clear hown3 hg3)
    | (at_builtin; refine wpList_append_any _ rfl (.tmp 20) (.tmp 21) _ rfl w.heap.size 5 i0 _ 1 1 Try.underlying23 hi0 hz0 hz1 hz2 rfl (by omega) _ _ _ rfl O3.1 b1 A key.length c (byteVs key) rfl (HK.out.new_ O3.2) (byteVs_one _) (by simp [maxLen, lits_length]; omega) (by simp [lits_length]; omega) O3.lt ?_; intro v4 w4 hown4 hg4 _; have O4 := O3.push hown4 rfl hg4; clear hown4 hg4))
  obtain ⟨A4, n4, c4, rfl, _⟩ := O4.shape
  refine (rlittle_any (value.length : Int) 2 2 rfl w4 (by omega) (by omega)).mono ?_
  rintro e w5 ⟨A5, n5, c5, rfl, P5⟩
  have O5 := O4.next P5
  go_wp2_with (first
    | (at_builtin; refine wpList_append_any _ rfl (.tmp 23) (.tmp 27) _ rfl w.heap.size 5 i0 _ 1 1 Try.underlying23 hi0 hz0 hz1 hz2 rfl (by omega) _ _ _ rfl O5.1 w.heap.size _ _ _ (byteVs (lits (value.length : Int) 2)) rfl P5.reads (byteVs_one _) (by rw [P5.num]; simp [maxLen, lits_length]; omega) (by rw [P5.num]; simp [lits_length]; omega) O5.lt ?_; intro v6 w6 hown6 hg6 _; have O6 := O5.push hown6 P5.num.symm hg6; clear hown6 hg6)
    | (at_builtin; refine wpList_append_any _ rfl (.tmp 29) (.tmp 30) _ rfl w.heap.size 5 i0 _ 1 1 Try.underlying23 hi0 hz0 hz1 hz2 rfl (by omega) _ _ _ rfl O6.1 b2 B value.length d (byteVs value) rfl (HV.out.new_ O6.2) (byteVs_one _) (by simp [maxLen, lits_length]; omega) (by simp [lits_length]; omega) O6.lt ?_; intro v7 w7 hown7 hg7 _; have O7 := O6.push hown7 rfl hg7; clear hown7 hg7))
  obtain ⟨A7, n7, c7, rfl, _⟩ := O7.shape
  refine (rlittle_any right 8 8 rfl w7 hr (by omega)).mono ?_
  rintro e w8 ⟨A8, n8, c8, rfl, P8⟩
  have O8 := O7.next P8
  go_wp2_with (at_builtin; refine wpList_append_any _ rfl (.tmp 32) (.tmp 34) _ rfl w.heap.size 5 i0 _ 1 1 Try.underlying23 hi0 hz0 hz1 hz2 rfl (by omega) _ _ _ rfl O8.1 w.heap.size _ _ _ (byteVs (lits right 8)) rfl P8.reads (byteVs_one _) (by rw [P8.num]; simp [maxLen, lits_length]; omega) (by rw [P8.num]; simp [lits_length]; omega) O8.lt ?_; intro v9 w9 hown9 hg9 _; have O9 := O8.push hown9 P8.num.symm hg9; clear hown9 hg9)
  obtain ⟨A9, n9, c9, rfl, _⟩ := O9.shape
  have hb := O9.bytes (base := 0)
  refine (rcoin_any seed 4 A9 n9 c9 _ w9 hb (by rw [← hb.len]; simp [lits_length]; omega)).mono ?_
  rintro e w10 ⟨rfl, rfl⟩
  go_wp2
  go_ret
  exact ⟨ret_u64 (by rw [mark, markBytes, lits_one (key.length : Int)]; simp), O9.2⟩

end Go.Proofs.Ytdmckjojeddaaaa
