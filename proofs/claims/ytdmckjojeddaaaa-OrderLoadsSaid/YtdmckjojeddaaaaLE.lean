/- Contract of the reference's number: the number of some bytes, the least one first. Conditions: from one to seven bytes. -/
import Derived.Test.YtdmckjojeddaaaaR3
import Derived.IntWalk
import Derived.Lib.Hide
import Derived.BigQuiet
namespace Go.Proofs.Ytdmckjojeddaaaa
open Go.RowKit Go.Proofs.YtdmckjojeddaaaaKit Go.Proofs.YtdmckjojeddaaaaPlain

def numL : List UInt8 → Nat
  | [] => 0
  | b :: bs => b.toNat + 256 * numL bs
theorem numL_lt (bs : List UInt8) : numL bs < 256 ^ bs.length := by
  induction bs with
  | nil => simp [numL]
  | cons b bs ih =>
    have := b.toNat_lt
    simp only [numL, List.length_cons, Nat.pow_succ]
    omega
theorem numL_drop {bs : List UInt8} {j : Nat} (h : j < bs.length) : numL (bs.drop j) = bs[j].toNat + 256 * numL (bs.drop (j + 1)) := by
  rw [List.drop_eq_getElem_cons h, numL]
theorem numL_small {bs : List UInt8} (h : bs.length ≤ 4) (j : Nat) : numL (bs.drop j) < 4294967296 := by
  have h1 := numL_lt (bs.drop j)
  have h2 : 256 ^ (bs.drop j).length ≤ 256 ^ 4 := Nat.pow_le_pow_right (by omega) (by rw [List.length_drop]; omega)
  omega

set_option maxHeartbeats 1000000 in
set_option maxRecDepth 100000 in
theorem number_any {base : Nat} {w : World} (A : Option Addr) (m c : Nat) (bs : List UInt8) (h : Bytes base w A (m + 1) bs) (hm : m < 4) :
    Calls Try.prog 98 #[.slice A (m + 1) c] w fun e w' => e = .returned (.int .i64 (numL bs : Nat)) ∧ w = w' := by
  have hl := h.len
  have H := Lib.hid h
  have HL := Lib.hid hl
  have hs := Lib.hid (fun j => numL_small (bs := bs) (by omega) j)
  clear h hl
  go_enter Try.func98, Try.ntmps98
  go_wp2
  go_loop [3, 4] (fun v3 v4 => (∃ j : Nat, j ≤ m ∧ v4 = .int .i64 (j : Int) ∧ v3 = .int .i64 ((numL (bs.drop (j + 1)) : Nat) : Int)) ∨ (v4 = .int .i64 (-1) ∧ v3 = .int .i64 ((numL bs : Nat) : Int))) (fun _ i => (intOf i + 1).toNat)
  case atStart => exact .inl ⟨m, Nat.le_refl _, rfl, by rw [List.drop_of_length_le (by rw [HL.out]; exact Nat.le_refl _)]; rfl⟩
  case round =>
    rcases hrel with ⟨j, hj, rfl, rfl⟩ | ⟨rfl, rfl⟩
    · have hlt : j < bs.length := by rw [HL.out]; omega
      have hst := numL_drop hlt
      have hn1 := hs.out (j + 1)
      have hn0 := hs.out j
      obtain ⟨ad, rfl, hc⟩ := H.out.at_ (k := j) (by omega)
      rw [List.getD_eq_getElem?_getD, List.getElem?_eq_getElem hlt] at hc
      simp only [Option.getD_some] at hc
      have hb := bs[j].toNat_lt
      generalize bs[j] = b at *
      obtain ⟨N, hN⟩ : ∃ N, N = numL (bs.drop (j + 1)) := ⟨_, rfl⟩
      rw [← hN] at hst hn1 ⊢
      have HST := Lib.hid hst
      have i0 : (0 : Int) ≤ (j : Int) := by omega
      have i1 : (j : Int) < ((m + 1 : Nat) : Int) := by omega
      have hN2 := Lib.hid hN
      rw [hst] at hn0
      clear hst hN hlt
      go_wp2
      go_round
      case rel =>
        cases j with
        | zero => exact .inr ⟨rfl, by have := HST.out; simp only [List.drop_zero] at this; rw [this]; go_num⟩
        | succ j => exact .inl ⟨j, by omega, by go_num, by rw [HST.out]; go_num⟩
      case measure => simp [intOf]
    · go_wp2
      go_ret
      exact ⟨rfl, rfl⟩
end Go.Proofs.Ytdmckjojeddaaaa
