/- Contracts of the small functions on bytes: bytes.Compare, bytes.Clone, order.little, slots.Coin, order.digestOf. Conditions: each names its own. -/
import Derived.Test.YtdmckjojeddaaaaProg
import Derived.Test.YtdmckjojeddaaaaKit
namespace Go.Proofs.Ytdmckjojeddaaaa
open Go.RowKit Go.Proofs.YtdmckjojeddaaaaKit

theorem info_u8 : (Try.prog.info? 5).map (fun i => (i.zero, i.size, i.bytes)) = some (some (.int .u8 0), 1, 1) := by kernel_rfl

set_option maxHeartbeats 400000 in
set_option maxRecDepth 100000 in
theorem bcompare {b1 b2 : Nat} (A B : Option Addr) (n c m d : Nat) (xs ys : List UInt8) (w : World) (h : Bytes b1 w A n xs) (k : Bytes b2 w B m ys) :
    Calls Try.prog 61 #[.slice A n c, .slice B m d] w fun e w' => e = .returned (.int .i64 (Lib.compareBytes xs ys)) ∧ w = w' := by
  have hr := Lib.hid (run_compare (P := Try.prog) (c := c) (d := d) h k)
  have H := Lib.hid h
  have K := Lib.hid k
  clear h k
  go_enter Try.func61, Try.ntmps61
  go_wp2_with fail
  rw [run_callFunc_extern Try.func96 (by kernel_rfl) (by kernel_rfl) (by kernel_rfl) (e := Extern.BytealgCompare.compare) (by kernel_rfl), hr.out]
  simp only [Result.andThen]
  rw [Oper.upon_value]
  go_wp2
  go_ret
  exact ⟨rfl, rfl⟩

/-- What a Clone hands back. -/
def Cloned (w : World) (bs : List UInt8) (e : Ending) (w' : World) : Prop :=
  ∃ A c, e = .returned (.slice A bs.length c) ∧ bs.length ≤ c ∧ w'.ownsRow w.heap.size 5 1 (.slice A bs.length c) bs.length (byteVs bs) ∧ Keep No w w'

theorem own_slice {w : World} {base e size n : Nat} {v : Value} {xs : List Value} (h : w.ownsRow base e size v n xs) : ∃ A c, v = .slice A n c ∧ n ≤ c := by
  rcases h.2 with ⟨rfl, h0⟩ | ⟨g, cap, cur, rfl, _, _, hnc, _⟩
  · subst h0; exact ⟨none, 0, rfl, Nat.le_refl _⟩
  · exact ⟨_, _, rfl, hnc⟩

theorem cloned_of {w w1 : World} {v : Value} {n : Nat} {bs : List UInt8} {o : Obj} (h : w1.ownsRow w.heap.size 5 1 v (0 + n) ([] ++ byteVs bs)) (hg : (w.alloc o).grownBy w1 (some w.heap.size)) (hl : bs.length = n) : Cloned w bs (.returned v) w1 := by
  rw [Nat.zero_add, List.nil_append] at h
  subst hl
  obtain ⟨A, c, rfl, hc⟩ := own_slice h
  exact ⟨A, c, rfl, hc, h, ((Keep.refl No w).alloc o).grown hg (fun k e => by injection e with e; exact .inr (by omega))⟩

theorem own_empty {w : World} {base e size : Nat} (hb : base ≤ w.heap.size) : (w.alloc (.cells #[] e)).ownsRow base e size (.slice (some ⟨w.heap.size, 0, none⟩) 0 0) 0 [] :=
  World.ownsRow_made w #[] 0 hb (Nat.zero_le _) (by simp)

set_option maxHeartbeats 400000 in
set_option maxRecDepth 100000 in
theorem bclone {base : Nat} (A : Option Addr) (n c : Nat) (bs : List UInt8) (w : World) (h : Bytes base w A n bs) (hn : n ≤ 1000000) :
    Calls Try.prog 62 #[.slice A n c] w (Cloned w bs) := by
  obtain ⟨i0, hi0, hz0, hz1, hz2⟩ := info_parts info_u8
  have hl := Lib.hid h.len
  have H := Lib.hid h
  cases A with
  | none =>
    have h0 : n = 0 := by
      rcases Nat.eq_zero_or_pos n with h0 | h0
      · exact h0
      · obtain ⟨ad, e, _⟩ := h.2 h0
        cases e
    subst h0
    have : bs = [] := List.eq_nil_of_length_eq_zero h.len
    subst this
    clear h H hl
    have hq := Lib.run_eql_slice_nil (P := Try.prog) w 23 5 none 0 c 0 0 Try.underlying23
    go_enter Try.func62, Try.ntmps62
    go_wp2
    go_ret
    exact ⟨none, 0, rfl, Nat.le_refl _, World.ownsRow_nil _ _ _ _, Keep.refl _ _⟩
  | some ad =>
    clear h
    have hq := Lib.run_eql_slice_nil (P := Try.prog) w 23 5 (some ad) n c 0 0 Try.underlying23
    go_enter Try.func62, Try.ntmps62
    go_wp2_with (at_builtin; refine wpList_append_any _ rfl (.tmp 5) (.tmp 6) _ rfl w.heap.size 5 i0 _ 1 1 Try.underlying23 hi0 hz0 hz1 hz2 rfl (by omega) _ 0 [] rfl (own_empty (Nat.le_refl _)) base (some ad) n c (byteVs bs) rfl (Reads.alloc H.out _) (byteVs_one bs) (by simp only [maxLen]; omega) (by omega) (by simp) ?_; intro v1 w1 hown1 hg1 hat1)
    go_ret
    exact cloned_of hown1 hg1 hl.out

/-! ### order.little -/
def byteOf (x : Int) : UInt8 := UInt8.ofNat (x % 256).toNat
theorem byteOf_toNat (x : Int) : ((byteOf x).toNat : Int) = x % 256 := by
  unfold byteOf
  have h0 : 0 ≤ x % 256 := Int.emod_nonneg _ (by omega)
  have h1 : x % 256 < 256 := Int.emod_lt_of_pos _ (by omega)
  rw [UInt8.toNat_ofNat']
  omega
def lits : Int → Nat → List UInt8
  | _, 0 => []
  | x, n + 1 => byteOf x :: lits (x / 256) n
theorem lits_length (x : Int) (n : Nat) : (lits x n).length = n := by
  induction n generalizing x with
  | zero => rfl
  | succ n ih => simp [lits, ih]
def down (x : Int) : Nat → Int
  | 0 => x
  | n + 1 => down (x / 256) n
theorem down_succ (x : Int) (n : Nat) : down x (n + 1) = down x n / 256 := by
  induction n generalizing x with
  | zero => rfl
  | succ n ih => rw [down, ih]; rfl
theorem down_nonneg (x : Int) (n : Nat) (h : 0 ≤ x) : 0 ≤ down x n := by
  induction n generalizing x with
  | zero => exact h
  | succ n ih => exact ih _ (by omega)
theorem lits_succ (x : Int) (n : Nat) : lits x (n + 1) = lits x n ++ [byteOf (down x n)] := by
  induction n generalizing x with
  | zero => rfl
  | succ n ih => rw [lits, ih]; rfl

/-- An owned row has been appended to: what stands behind. -/
def Appended (w : World) (base : Nat) (v : Value) (ys : List UInt8) (e : Ending) (w' : World) : Prop :=
  ∃ A c, e = .returned (.slice A ys.length c) ∧ ys.length ≤ c ∧ w'.ownsRow base 5 1 (.slice A ys.length c) ys.length (byteVs ys) ∧ w.grownBy w' v.ownBlock ∧ (∀ k, (Value.slice A ys.length c).ownBlock = some k → v.ownBlock = some k ∨ w.heap.size ≤ k)

def LI (w : World) (base : Nat) (v : Value) (ys : List UInt8) (v0 : Value) (wr : World) : Prop :=
  wr.ownsRow base 5 1 v0 ys.length (byteVs ys) ∧ w.grownBy wr v.ownBlock ∧ (∀ k, v0.ownBlock = some k → v.ownBlock = some k ∨ w.heap.size ≤ k)
theorem reads_one (w : World) (t : TypeId) (v u : Value) (ht : mutTy t = false) (h : v = u) {base : Nat} : Reads base (w.alloc (.cells #[v] t)) t 1 (some ⟨w.heap.size, 0, none⟩) 1 [u] := by
  subst h
  refine ⟨rfl, fun _ => ⟨_, rfl, (Blk.new w t #[v]).imm ht, fun j u hu => ?_⟩⟩
  cases j with
  | zero => simp at hu; subst hu; exact (Blk.new w t #[v]).cell 0
  | succ j => simp at hu
theorem byteOf_val (x : Int) : Value.int .u8 (x % 256) = byteV (byteOf x) := by rw [byteV, byteOf_toNat]
theorem LI.push {w wr w1 : World} {base : Nat} {v v0 v1 : Value} {ys : List UInt8} {b : UInt8} {o : Obj} (h : LI w base v ys v0 wr)
    (h1 : w1.ownsRow base 5 1 v1 (ys.length + 1) (byteVs ys ++ [byteV b])) (hg : (wr.alloc o).grownBy w1 v0.ownBlock) (hat : v1.ownBlock = v0.ownBlock ∨ v1.ownBlock = some (wr.alloc o).heap.size) : LI w base v (ys ++ [b]) v1 w1 := by
  obtain ⟨h2, h3, h4⟩ := h
  refine ⟨by rw [byteVs_append, List.length_append]; exact h1, ?_, fun k e => ?_⟩
  · exact ⟨hg.os.trans h3.os, hg.tape.trans h3.tape, hg.output.trans h3.output, by have := hg.size; have := h3.size; simp at *; omega, fun k hk hn => by
      have hz := h3.size
      rw [hg.block k (by simp; omega) (fun e => by
        rcases h4 k e.symm with h5 | h5
        · exact hn h5.symm
        · omega), Below.heap_alloc _ _ _ (by omega), h3.block k hk hn]⟩
  · rcases hat with h5 | h5
    · exact h4 k (h5 ▸ e)
    · rw [h5] at e; injection e with e; have := h3.size; simp at e; exact .inr (by omega)
theorem LI.appended {w wr : World} {base : Nat} {v v0 : Value} {ys : List UInt8} (h : LI w base v ys v0 wr) : Appended w base v ys (.returned v0) wr := by
  obtain ⟨h1, h2, h3⟩ := h
  obtain ⟨A, c, rfl, hc⟩ := own_slice h1
  exact ⟨A, c, rfl, hc, h1, h2, h3⟩

set_option maxHeartbeats 400000 in
set_option maxRecDepth 100000 in
theorem little_any (base : Nat) (v : Value) (m : Nat) (bs : List UInt8) (x : Int) (n : Nat) (w : World) (hb : base ≤ w.heap.size) (h : w.ownsRow base 5 1 v m (byteVs bs)) (hx : 0 ≤ x) (hm : m ≤ 1000000) (hn : n ≤ 1000) :
    Calls Try.prog 90 #[v, .int .u64 x, .int .i64 n] w (Appended w base v (bs ++ lits x n)) := by
  obtain ⟨i0, hi0, hz0, hz1, hz2⟩ := info_parts info_u8
  have H := Lib.hid h
  clear h
  go_enter Try.func90, Try.ntmps90
  go_wp2
  go_loopw [0, 1, 8] (fun v0 v1 v8 wr => ∃ k : Nat, k ≤ n ∧ v8 = .int .i64 k ∧ v1 = .int .u64 (down x k) ∧ LI w base v (bs ++ lits x k) v0 wr) (fun _ _ i _ => n - (intOf i).toNat)
  case atStart =>
    have hl : m = bs.length := by have := H.out.1; rw [byteVs_length] at this; omega
    subst hl
    exact ⟨0, Nat.zero_le _, rfl, rfl, by rw [lits, List.append_nil]; exact ⟨H.out, World.grownBy.refl _ _, fun k e => .inl e⟩⟩
  case round =>
    obtain ⟨k, hk, rfl, rfl, hI⟩ := hrel
    have hl : (bs ++ lits x k).length ≤ 1001000 := by
      have := H.out.1; rw [byteVs_length] at this; rw [List.length_append, lits_length]; omega
    by_cases hlt : k < n
    · have hd := down_nonneg x k hx
      have hbw := Nat.le_trans hb hI.2.1.size
      go_wp2_with (at_builtin; refine wpList_append_any _ rfl (.tmp 10) (.tmp 13) _ rfl base 5 i0 _ 1 1 Try.underlying23 hi0 hz0 hz1 hz2 rfl (by omega) _ _ _ rfl (hI.1.alloc _) base _ 1 1 [byteV (byteOf (down x k))] rfl (reads_one wr 5 _ _ rfl (byteOf_val _)) (by simp [byteV, Value.oneCell']) (by simp only [maxLen]; omega) (by omega) (by simp; omega) ?_; intro v1 w1 hown1 hg1 hat1; have hstep := hI.push hown1 hg1 hat1)
      go_roundw
      case rel => exact ⟨k + 1, by omega, by go_num, by rw [down_succ], by rw [lits_succ, ← List.append_assoc]; exact hstep⟩
      case measure => simp [intOf]; omega
    · have hkn : k = n := by omega
      subst hkn
      go_wp2
      go_ret
      exact hI.appended

end Go.Proofs.Ytdmckjojeddaaaa
