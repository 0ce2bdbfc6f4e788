/- Contracts of the reference's Height and Top. Conditions: the lengths are bounded. -/
import Derived.Test.YtdmckjojeddaaaaR1
import Derived.Test.YtdmckjojeddaaaaP3
namespace Go.Proofs.Ytdmckjojeddaaaa
open Go.RowKit Go.Proofs.YtdmckjojeddaaaaKit Go.Proofs.YtdmckjojeddaaaaPlain

set_option maxHeartbeats 400000 in
theorem rheight_any {base : Nat} (seed : Int) (A : Option Addr) (n c : Nat) (key : List UInt8) (w : World) (h : Bytes base w A n key) (hn : n ≤ 1000000) :
    Calls Try.prog 103 #[.int .u64 seed, .slice A n c] w fun e w' => e = .returned (.int .u64 (height seed key)) ∧ w = w' := by
  have HC := Lib.hid (rcoin_any seed 3 A n c key w h hn)
  clear h
  go_enter Try.func103, Try.ntmps103
  go_wp2_with (go_at_call 23; refine HC.out.mono ?_; rintro e w' ⟨rfl, rfl⟩)
  go_ret
  exact ⟨rfl, rfl⟩

/-- The place of the root, -1 of none. -/
def topI (seed : Int) : PairL → Int
  | [] => -1
  | p :: l => (top seed (p :: l) : Nat)
def TopSt (seed : Int) (l : PairL) (k : Nat) (v5 v6 : Value) : Prop :=
  (k = 0 ∧ v5 = .int .i64 (-1) ∧ v6 = .int .u64 0) ∨ (0 < k ∧ ∃ (b : Nat) (h : Int), v5 = .int .i64 b ∧ v6 = .int .u64 h ∧ Hid (top seed l = topGo seed (l.drop k) k b h))
theorem topSt_first {seed : Int} {l : PairL} (h : 0 < l.length) : TopSt seed l 1 (.int .i64 ((0 : Nat) : Int)) (.int .u64 (height seed (l[0]).1)) := by
  cases l with
  | nil => simp at h
  | cons p l => exact .inr ⟨by omega, 0, _, rfl, rfl, rfl⟩
theorem topGo_at {seed : Int} {l : PairL} {k b : Nat} {h : Int} (hk : k < l.length) : topGo seed (l.drop k) k b h = if h < height seed (l[k]).1 then topGo seed (l.drop (k + 1)) (k + 1) k (height seed (l[k]).1) else topGo seed (l.drop (k + 1)) (k + 1) b h := by
  rw [List.drop_eq_getElem_cons hk, topGo]
theorem topSt_end {seed : Int} {l : PairL} {v5 v6 : Value} (h : TopSt seed l l.length v5 v6) : v5 = .int .i64 (topI seed l) := by
  rcases h with ⟨h0, rfl, _⟩ | ⟨h0, b, h, rfl, _, ht⟩
  · obtain rfl : l = [] := List.eq_nil_of_length_eq_zero h0
    rfl
  · cases l with
    | nil => simp at h0
    | cons p l =>
      have := ht.out
      rw [List.drop_length] at this
      rw [topI, this]; rfl

set_option maxHeartbeats 1000000 in
set_option maxRecDepth 100000 in
theorem rtop_any {b1 : Nat} (seed : Int) (L : Option Addr) (m d : Nat) (l : List Pair) (w : World) (hl : Pairs b1 w L m l) (hs : Small l) (hm : m ≤ 1000000) :
    Calls Try.prog 97 #[.int .u64 seed, .slice L m d] w fun e w' => e = .returned (.int .i64 (topI seed l)) ∧ w = w' := by
  obtain rfl := hl.len (by omega)
  have HL := Lib.hid hl
  have HS := Lib.hid hs
  clear hl hs
  go_enter Try.func97, Try.ntmps97
  go_wp2
  go_loop [5, 6, 7] (fun v5 v6 v7 => ∃ k : Nat, k ≤ l.length ∧ v7 = .int .i64 k ∧ TopSt seed l k v5 v6) (fun _ _ i => l.length - (intOf i).toNat)
  case atStart => exact ⟨0, Nat.zero_le _, rfl, .inl ⟨rfl, rfl, rfl⟩⟩
  case round =>
    obtain ⟨k, hk, rfl, hst⟩ := hrel
    by_cases hlt : k < l.length
    · obtain ⟨ad, A1, c1, A2, c2, rfl, him, e0, e1, b1', b2'⟩ := HL.out.at_ hlt
      have hsk := (HS.out _ (List.getElem_mem hlt)).1
      have HC := Lib.hid (rheight_any seed A1 _ c1 l[k].1 w b1' (by omega))
      have hfirst := Lib.hid (fun (h0 : k = 0) => by subst h0; exact topSt_first (seed := seed) hlt : k = 0 → TopSt seed l (k + 1) (.int .i64 ((k : Nat) : Int)) (.int .u64 (height seed (l[k]).1)))
      have hnext := Lib.hid (fun b h => topGo_at (seed := seed) (b := b) (h := h) hlt)
      clear him b1' b2' e1
      generalize height seed l[k].1 = hp at *
      generalize l[k] = p at *
      rcases hst with ⟨h0, rfl, rfl⟩ | ⟨h0, b, h, rfl, rfl, ht⟩
      · have H0 := Lib.hid h0
        clear h0
        go_wp2_with (go_at_call 103; refine HC.out.mono ?_; rintro e w' ⟨rfl, rfl⟩)
        go_round
        case rel => exact ⟨k + 1, by omega, by go_num, hfirst.out H0.out⟩
        case measure => simp [intOf]; omega
      · have d1 : decide ((b : Int) < 0) = false := decide_eq_false (by omega)
        by_cases hgt : h < hp
        · have ht2 := Lib.hid (ht.out.trans ((hnext.out b h).trans (if_pos hgt)))
          clear ht hnext
          go_wp2_with (go_at_call 103; refine HC.out.mono ?_; rintro e w' ⟨rfl, rfl⟩)
          go_round
          case rel => exact ⟨k + 1, by omega, by go_num, .inr ⟨by omega, k, hp, rfl, rfl, ht2⟩⟩
          case measure => simp [intOf]; omega
        · have ht2 := Lib.hid (ht.out.trans ((hnext.out b h).trans (if_neg hgt)))
          clear ht hnext
          go_wp2_with (go_at_call 103; refine HC.out.mono ?_; rintro e w' ⟨rfl, rfl⟩)
          go_round
          case rel => exact ⟨k + 1, by omega, by go_num, .inr ⟨by omega, b, h, rfl, rfl, ht2⟩⟩
          case measure => simp [intOf]; omega
    · have hkl : k = l.length := by omega
      subst hkl
      obtain rfl := topSt_end hst
      clear hst
      go_wp2
      go_ret
      exact ⟨rfl, rfl⟩
end Go.Proofs.Ytdmckjojeddaaaa
