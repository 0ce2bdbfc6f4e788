/- Contract of order's reader.take, where there are as many bytes and where there are not. Conditions: each names its own. -/
import Derived.Test.YtdmckjojeddaaaaT9
import Derived.Lib.QuoteBits
import Derived.Deep.RegionHeld3
import Derived.Deep.OwnRows
namespace Go.Proofs.Ytdmckjojeddaaaa
open Go.RowKit Go.Proofs.YtdmckjojeddaaaaKit Go.Proofs.YtdmckjojeddaaaaPlain

theorem or_byte (a b k : Nat) (ha : a < 2 ^ k) (hb : a + b * 2 ^ k < 9223372036854775807) : bits .or .i64 (a : Int) ((b * 2 ^ k : Nat) : Int) = ((a + b * 2 ^ k : Nat) : Int) := by
  show IntKind.i64.wrap ((BitVec.ofInt 64 (a : Int) ||| BitVec.ofInt 64 ((b * 2 ^ k : Nat) : Int)).toNat : Int) = _
  have e : a ||| b * 2 ^ k = a + b * 2 ^ k := by
    rw [Nat.or_comm, Nat.mul_comm b, ← Nat.two_pow_add_eq_or_of_lt ha, Nat.add_comm]
  rw [BitVec.toNat_or, Go.ofInt_u64 a (by omega), Go.ofInt_u64 (b * 2 ^ k) (by omega), e]
  exact Lib.wrap_i64_small _ (by omega)

/-- A reader's block. -/
def Rdr (w : World) (rb mb : Nat) (A : Option Addr) (n c : Nat) (left : Int) (L : Value) (any bad : Bool) : Prop :=
  Blk w rb 130 #[.pointer (some ⟨mb, 0, none⟩), .slice A n c, .int .i64 left, L, .bool any, .bool bad]
theorem Rdr.cells {w : World} {rb mb : Nat} {A : Option Addr} {n c : Nat} {left : Int} {L : Value} {any bad : Bool} (h : Rdr w rb mb A n c left L any bad) :
    w.cell? ⟨rb, 0, none⟩ = some (.pointer (some ⟨mb, 0, none⟩)) ∧ w.cell? ⟨rb, 1, none⟩ = some (.slice A n c) ∧ w.cell? ⟨rb, 2, none⟩ = some (.int .i64 left) ∧ w.cell? ⟨rb, 3, none⟩ = some L ∧ w.cell? ⟨rb, 4, none⟩ = some (.bool any) ∧ w.cell? ⟨rb, 5, none⟩ = some (.bool bad) ∧ ∀ i, w.frozen? ⟨rb, i, none⟩ = false :=
  ⟨h.cell 0, h.cell 1, h.cell 2, h.cell 3, h.cell 4, h.cell 5, fun i => Blk.frozen h i⟩

/-- A reader with the bytes that are left, how many nodes are left, the last key, and whether it is bad. -/
structure RSt (base : Nat) (w : World) (rb mb : Nat) (seed : Int) (bs : List UInt8) (left : Int) (last : Option (List UInt8)) (bad : Bool) : Prop where
  ge : base ≤ rb
  map : MapHas base w mb seed none
  rdr : ∃ A c L, bs.length ≤ c ∧ Rdr w rb mb A bs.length c left L last.isSome bad ∧ Bytes base w A bs.length bs ∧ ∀ k, last = some k → k.length ≤ 64 ∧ ∃ B d, L = .slice B k.length d ∧ Bytes base w B k.length k
section
variable {base : Nat} {w w1 : World} {rb mb : Nat} {seed left : Int} {bs : List UInt8} {last : Option (List UInt8)} {bad : Bool} {S : Nat → Prop}
theorem RSt.mut (h : RSt base w rb mb seed bs left last bad) : Mut base w rb := by
  obtain ⟨A, c, L, _, hr, _⟩ := h.rdr
  exact Blk.mut hr h.ge rfl
theorem RSt.only (h : RSt base w rb mb seed bs left last bad) : ∀ x, Only rb x → Mut base w x := fun x e => e ▸ h.mut
theorem RSt.ne (h : RSt base w rb mb seed bs left last bad) : mb ≠ rb := by
  obtain ⟨A, c, L, _, hr, _⟩ := h.rdr
  exact h.map.2.ne_ hr (by decide)
theorem RSt.keep (h : RSt base w rb mb seed bs left last bad) (hk : Keep S w w1) (hs : ∀ b, S b → Mut base w b) (h1 : ¬ S rb) (h2 : ¬ S mb) : RSt base w1 rb mb seed bs left last bad := by
  obtain ⟨A, c, L, hc, hr, hb, hl⟩ := h.rdr
  refine ⟨h.ge, h.map.keep hk h2, A, c, L, hc, Blk.keep hr hk h1, hb.keep hk hs, fun k e => ?_⟩
  obtain ⟨h3, B, d, h4, h5⟩ := hl k e
  exact ⟨h3, B, d, h4, h5.keep hk hs⟩
theorem RSt.new_ (h : RSt base w rb mb seed bs left last bad) (hk : Keep No w w1) : RSt base w1 rb mb seed bs left last bad := h.keep hk (fun _ x => x.elim) (fun x => x) (fun x => x)
theorem RSt.drew (h : RSt base w rb mb seed bs left last bad) : RSt base w.drew rb mb seed bs left last bad := ⟨h.ge, h.map, h.rdr⟩
/-- The reader's own cells are written. -/
theorem RSt.set2 (h : RSt base w rb mb seed bs left last bad) (x : Int) : RSt base (w.setCell ⟨rb, 2, none⟩ (.int .i64 x)) rb mb seed bs x last bad := by
  obtain ⟨A, c, L, hc, hr, hb, hl⟩ := h.rdr
  refine ⟨h.ge, ⟨h.map.1, h.map.2.far h.ne _⟩, A, c, L, hc, Blk.set_ hr 2 _, hb.setMut h.mut _, fun k e => ?_⟩
  obtain ⟨h3, B, d, h4, h5⟩ := hl k e
  exact ⟨h3, B, d, h4, h5.setMut h.mut _⟩
theorem RSt.set5 (h : RSt base w rb mb seed bs left last bad) (x : Bool) : RSt base (w.setCell ⟨rb, 5, none⟩ (.bool x)) rb mb seed bs left last x := by
  obtain ⟨A, c, L, hc, hr, hb, hl⟩ := h.rdr
  refine ⟨h.ge, ⟨h.map.1, h.map.2.far h.ne _⟩, A, c, L, hc, Blk.set_ hr 5 _, hb.setMut h.mut _, fun k e => ?_⟩
  obtain ⟨h3, B, d, h4, h5⟩ := hl k e
  exact ⟨h3, B, d, h4, h5.setMut h.mut _⟩
theorem RSt.set1 (h : RSt base w rb mb seed bs left last bad) {ys : List UInt8} {B : Option Addr} {d : Nat} (hb : Bytes base w B ys.length ys) (hd : ys.length ≤ d) : RSt base (w.setCell ⟨rb, 1, none⟩ (.slice B ys.length d)) rb mb seed ys left last bad := by
  obtain ⟨A, c, L, hc, hr, _, hl⟩ := h.rdr
  refine ⟨h.ge, ⟨h.map.1, h.map.2.far h.ne _⟩, B, d, L, hd, Blk.set_ hr 1 _, hb.setMut h.mut _, fun k e => ?_⟩
  obtain ⟨h3, B, d, h4, h5⟩ := hl k e
  exact ⟨h3, B, d, h4, h5.setMut h.mut _⟩
theorem RSt.set34 (h : RSt base w rb mb seed bs left last bad) {k : List UInt8} {B : Option Addr} {d : Nat} (hb : Bytes base w B k.length k) (hk : k.length ≤ 64) : RSt base ((w.setCell ⟨rb, 3, none⟩ (.slice B k.length d)).setCell ⟨rb, 4, none⟩ (.bool true)) rb mb seed bs left (some k) bad := by
  obtain ⟨A, c, L, hc, hr, hb0, hl⟩ := h.rdr
  have m1 : Mut base (w.setCell ⟨rb, 3, none⟩ (.slice B k.length d)) rb := Blk.mut (Blk.set_ hr 3 _) h.ge rfl
  refine ⟨h.ge, ⟨h.map.1, (h.map.2.far h.ne _).far h.ne _⟩, A, c, _, hc, Blk.set_ (Blk.set_ hr 3 _) 4 _, (hb0.setMut h.mut _).setMut m1 _, fun k' e => ?_⟩
  injection e with e
  subst e
  exact ⟨hk, B, d, rfl, (hb.setMut h.mut _).setMut m1 _⟩
end

theorem bytes_zeros (base : Nat) (w : World) (k : Nat) : Bytes base (w.alloc (.cells (madeCells #[.int .u8 0] k) 5)) (some ⟨w.heap.size, 0, none⟩) k (List.replicate k 0) := by
  refine ⟨by rw [byteVs_length]; simp, fun _ => ⟨_, rfl, (Blk.new w 5 _).imm rfl, fun j u hu => ?_⟩⟩
  rw [show (⟨w.heap.size, 0, none⟩ : Addr).add j = ⟨w.heap.size, j, none⟩ by unfold Addr.add; split <;> simp_all, (Blk.new w 5 _).cell j, ← Array.getElem?_toList, toList_madeCells_one]
  rw [← hu]
  simp [byteVs, byteV]

theorem run_zeros (k : Nat) (hk : k ≤ 1000000) (w : World) : (Instr.makeSlice 23 (.int .i64 (k : Int)) (.int .i64 (k : Int))).run Try.prog w = .ok (.slice (some ⟨w.heap.size, 0, none⟩) k k) (w.alloc (.cells (madeCells #[.int .u8 0] k) 5)) :=
  run_make_row' 23 5 (.int .u8 0) 1 Try.underlying23 info_u8 rfl _ _ k (by omega) (by omega) w

/-- What take hands back. -/
def TakeRet (base : Nat) (w : World) (rb mb : Nat) (seed left : Int) (last : Option (List UInt8)) (bs : List UInt8) (bad : Bool) (k : Nat) (e : Ending) (w' : World) : Prop :=
  ∃ A c x bs' bad', e = .returned (.slice A k c) ∧ k ≤ c ∧ Bytes base w' A k x ∧ Keep (Only rb) w w' ∧ RSt base w' rb mb seed bs' left last bad' ∧
    ((bad' = false ∧ bad = false ∧ bs = x ++ bs') ∨ (bad' = true ∧ (bad = true ∨ bs.length < k) ∧ x = List.replicate k 0))

theorem take_zeros {base : Nat} {w : World} {rb mb : Nat} {seed left : Int} {bs : List UInt8} {last : Option (List UInt8)} {bad : Bool} {k : Nat} (h : RSt base w rb mb seed bs left last bad) (hb : bad = true ∨ bs.length < k) :
    TakeRet base w rb mb seed left last bs bad k (.returned (.slice (some ⟨w.heap.size, 0, none⟩) k k)) ((w.setCell ⟨rb, 5, none⟩ (.bool true)).alloc (.cells (madeCells #[.int .u8 0] k) 5)) :=
  ⟨_, k, List.replicate k 0, bs, true, rfl, Nat.le_refl _, by have := bytes_zeros base (w.setCell ⟨rb, 5, none⟩ (.bool true)) k; rwa [show (w.setCell ⟨rb, 5, none⟩ (.bool true)).heap.size = w.heap.size by simp [World.setCell]] at this, ((Keep.refl (Only rb) w).setCell (p := ⟨rb, 5, none⟩) (.inl rfl) _).alloc _,
    (h.set5 true).new_ ((Keep.refl No _).alloc _), .inr ⟨rfl, hb, rfl⟩⟩
theorem byteVs_take (bs : List UInt8) (k : Nat) : (byteVs bs).take k = byteVs (bs.take k) := by simp [byteVs]
theorem byteVs_drop (bs : List UInt8) (k : Nat) : (byteVs bs).drop k = byteVs (bs.drop k) := by simp [byteVs]
theorem take_some {base : Nat} {w : World} {rb mb : Nat} {seed left : Int} {bs : List UInt8} {last : Option (List UInt8)} {k n c d : Nat} {A B : Option Addr} (h : RSt base w rb mb seed bs left last false) (hn : n = bs.length) (hk : k ≤ n)
    (hA : Reads base w 5 1 A k ((byteVs bs).take (k * 1))) (hB : Reads base w 5 1 B (n - k) ((byteVs bs).drop k)) (hd : n - k ≤ d) (hc : k ≤ c := by exact Nat.le_refl _) :
    TakeRet base w rb mb seed left last bs false k (.returned (.slice A k c)) (w.setCell ⟨rb, 1, none⟩ (.slice B (n - k) d)) := by
  subst hn
  rw [Nat.mul_one, byteVs_take] at hA
  rw [byteVs_drop] at hB
  have e : (bs.drop k).length = bs.length - k := List.length_drop
  have hB' : Bytes base w B (bs.drop k).length (bs.drop k) := by rw [e]; exact hB
  have h2 := h.set1 hB' (by rw [e]; exact hd)
  rw [e] at h2
  exact ⟨A, c, bs.take k, bs.drop k, false, rfl, hc, Reads.setMut hA h.mut _, (Keep.refl (Only rb) w).setCell (p := ⟨rb, 1, none⟩) (.inl rfl) _, h2, .inl ⟨rfl, rfl, (List.take_append_drop k bs).symm⟩⟩

set_option maxHeartbeats 2000000 in
set_option maxRecDepth 100000 in
theorem rtake_any {base : Nat} {w : World} {rb mb : Nat} {seed left : Int} {bs : List UInt8} {last : Option (List UInt8)} {bad : Bool} (k : Nat) (h : RSt base w rb mb seed bs left last bad) (hk : k ≤ 1000000) :
    Calls Try.prog 74 #[.pointer (some ⟨rb, 0, none⟩), .int .i64 (k : Int)] w (TakeRet base w rb mb seed left last bs bad k) := by
  obtain ⟨A, c, L, hc, hr, hb, hl⟩ := h.rdr
  obtain ⟨e0, e1, e2, e3, e4, e5, ef⟩ := hr.cells
  have f1 := ef 1
  have f5 := ef 5
  have HB := Lib.hid hb
  have H := Lib.hid h
  clear h hr hb hl e0 e2 e3 e4 ef
  obtain ⟨n, hn⟩ : ∃ n, n = bs.length := ⟨_, rfl⟩
  rw [← hn] at hc e1 HB
  have HN := Lib.hid hn
  clear hn
  have i0 : (0 : Int) ≤ (k : Int) := by omega
  cases bad with
  | true =>
    go_enter Try.func74, Try.ntmps74
    go_wp2
    rw [run_zeros k hk, Result.andThen_ok, Oper.upon_value]
    go_wp2
    go_ret
    exact take_zeros H.out (.inl rfl)
  | false =>
    by_cases hlt : n < k
    · have hd : decide ((k : Int) > (n : Int)) = true := by simp; omega
      go_enter Try.func74, Try.ntmps74
      go_wp2
      rw [run_zeros k hk, Result.andThen_ok, Oper.upon_value]
      go_wp2
      go_ret
      exact take_zeros H.out (.inr (HN.out ▸ hlt))
    · have i1 : (k : Int) ≤ (n : Int) := by omega
      have i2 : (n : Int) ≤ (c : Int) := by omega
      have i3 : (k : Int) ≤ (c : Int) := by omega
      have hd : decide ((k : Int) > (n : Int)) = false := by simp; omega
      go_enter Try.func74, Try.ntmps74
      have HT := Lib.hid (Reads.take HB.out (k := k) (by omega))
      have HD := Lib.hid (Reads.cut HB.out (k := k) (cap := c) (by omega) hc)
      go_wp2
      · go_ret
        have hd2 := HD.out
        rw [if_pos h, Nat.mul_one] at hd2
        exact take_some H.out HN.out (by omega) HT.out hd2 (by omega)
      · go_ret
        have hd2 := HD.out
        rw [if_neg h, Nat.mul_one] at hd2
        exact take_some H.out HN.out (by omega) HT.out hd2 (by omega)
end Go.Proofs.Ytdmckjojeddaaaa
