/- Contracts of slots.Coin and amnestyref01.Coin (one function of numbers and bytes), of order.digestOf and of what the reference has in its place. Conditions: each names its own. -/
import Derived.Test.YtdmckjojeddaaaaC1
namespace Go.Proofs.Ytdmckjojeddaaaa
open Go.RowKit Go.Proofs.YtdmckjojeddaaaaKit

def coinStep (h : Int) (b : UInt8) : Int := IntKind.u64.wrap (Go.bits .xor .u64 h (IntKind.u64.wrap (b.toNat : Int)) * 1099511628211)
def coinFrom (seed tag : Int) : Int := IntKind.u64.wrap (seed + IntKind.u64.wrap (IntKind.u64.wrap (IntKind.u64.wrap tag + 1) * 11400714819323198485))
def coinMix (h : Int) : Int :=
  let a := IntKind.u64.wrap (Go.bits .xor .u64 h (h / 1073741824) * 13787848793156543929)
  let b := IntKind.u64.wrap (Go.bits .xor .u64 a (a / 134217728) * 10723151780598845931)
  Go.bits .xor .u64 b (b / 2147483648)
def coin (seed tag : Int) (bs : List UInt8) : Int := coinMix (Go.bits .xor .u64 (bs.foldl coinStep (coinFrom seed tag)) (bs.length : Int))

theorem fold_succ {α : Type} {f : α → UInt8 → α} {a : α} (bs : List UInt8) (k : Nat) (h : k < bs.length) : (bs.take (k + 1)).foldl f a = f ((bs.take k).foldl f a) bs[k] := by
  rw [List.take_succ_eq_append_getElem h, List.foldl_append]
  rfl
theorem ret_u64 {k : IntKind} {a b : Int} (h : a = b) : Ending.returned (.int k a) = .returned (.int k b) := by rw [h]
set_option maxHeartbeats 400000 in
set_option maxRecDepth 100000 in
theorem coin_any {base : Nat} (seed tag : Int) (A : Option Addr) (n c : Nat) (bs : List UInt8) (w : World) (h : Bytes base w A n bs) (hn : n ≤ 1000000) :
    Calls Try.prog 83 #[.int .u64 seed, .int .i64 tag, .slice A n c] w fun e w' => e = .returned (.int .u64 (coin seed tag bs)) ∧ w = w' := by
  obtain rfl := h.len
  have H := Lib.hid h
  clear h
  go_enter Try.func83, Try.ntmps83
  go_wp2
  go_loop [7, 18] (fun v7 v18 => ∃ k : Nat, k ≤ bs.length ∧ v18 = .int .i64 k ∧ v7 = .int .u64 ((bs.take k).foldl coinStep (coinFrom seed tag))) (fun _ i => bs.length - (intOf i).toNat)
  case atStart => exact ⟨0, Nat.zero_le _, rfl, rfl⟩
  case round =>
    obtain ⟨k, hk, rfl, rfl⟩ := hrel
    by_cases hlt : k < bs.length
    · obtain ⟨ad, rfl, hc⟩ := H.out.at_ hlt
      go_wp2
      go_round
      case rel => exact ⟨k + 1, by omega, by go_num, by rw [fold_succ bs k hlt, coinStep]⟩
      case measure => simp [intOf]; omega
    · have hkn : k = bs.length := by omega
      subst hkn
      go_wp2
      go_ret
      refine ⟨ret_u64 ?_, rfl⟩
      rw [coin, coinMix]

set_option maxHeartbeats 400000 in
set_option maxRecDepth 100000 in
theorem rcoin_any {base : Nat} (seed tag : Int) (A : Option Addr) (n c : Nat) (bs : List UInt8) (w : World) (h : Bytes base w A n bs) (hn : n ≤ 1000000) :
    Calls Try.prog 23 #[.int .u64 seed, .int .i64 tag, .slice A n c] w fun e w' => e = .returned (.int .u64 (coin seed tag bs)) ∧ w = w' := by
  obtain rfl := h.len
  have H := Lib.hid h
  clear h
  go_enter Try.func23, Try.ntmps23
  go_wp2
  go_loop [7, 8] (fun v7 v18 => ∃ k : Nat, k ≤ bs.length ∧ v18 = .int .i64 k ∧ v7 = .int .u64 ((bs.take k).foldl coinStep (coinFrom seed tag))) (fun _ i => bs.length - (intOf i).toNat)
  case atStart => exact ⟨0, Nat.zero_le _, rfl, rfl⟩
  case round =>
    obtain ⟨k, hk, rfl, rfl⟩ := hrel
    by_cases hlt : k < bs.length
    · obtain ⟨ad, rfl, hc⟩ := H.out.at_ hlt
      go_wp2
      go_round
      case rel => exact ⟨k + 1, by omega, by go_num, by rw [fold_succ bs k hlt, coinStep]⟩
      case measure => simp [intOf]; omega
    · have hkn : k = bs.length := by omega
      subst hkn
      go_wp2
      go_ret
      refine ⟨ret_u64 ?_, rfl⟩
      rw [coin, coinMix]

end Go.Proofs.Ytdmckjojeddaaaa
