/- Contracts of the reference's Rank and Has. Conditions: the lengths are bounded. -/
import Derived.Test.YtdmckjojeddaaaaC5
import Derived.Test.YtdmckjojeddaaaaP2
import Derived.Test.YtdmckjojeddaaaaKit2
namespace Go.Proofs.Ytdmckjojeddaaaa
open Go.RowKit Go.Proofs.YtdmckjojeddaaaaKit Go.Proofs.YtdmckjojeddaaaaPlain

/-- All lengths are those that statements hand in. -/
def Small (l : List Pair) : Prop := ∀ p ∈ l, p.1.length ≤ 1000000 ∧ p.2.length ≤ 1000000

set_option maxHeartbeats 1000000 in
set_option maxRecDepth 100000 in
theorem rrank_any {b1 b2 : Nat} (L A : Option Addr) (m d n c : Nat) (l : List Pair) (key : List UInt8) (w : World) (hl : Pairs b1 w L m l) (hk : Bytes b2 w A n key) (hs : Small l) (hn : n ≤ 1000000) (hm : m ≤ 1000000) :
    Calls Try.prog 47 #[.slice L m d, .slice A n c] w fun e w' => e = .returned (.int .i64 (rank key l : Nat)) ∧ Drawn w w' := by
  obtain rfl := hk.len
  obtain rfl := hl.len (by omega)
  have HL := Lib.hid hl
  have HK := Lib.hid hk
  have HS := Lib.hid hs
  clear hl hk hs
  go_enter Try.func47, Try.ntmps47
  go_wp2
  go_loopw [5] (fun v5 wr => ∃ k : Nat, k ≤ l.length ∧ v5 = .int .i64 k ∧ Hid (rank key l = k + rank key (l.drop k)) ∧ Drawn w wr) (fun i _ => l.length - (intOf i).toNat)
  case atStart => exact ⟨0, Nat.zero_le _, rfl, Lib.hid (by simp), Drawn.refl _⟩
  case round =>
    obtain ⟨k, hk, rfl, he, q, rfl⟩ := hrel
    by_cases hlt : k < l.length
    · obtain ⟨ad, A1, c1, A2, c2, rfl, him, e0, e1, b1', b2'⟩ := HL.out.at_ hlt
      have hsk := (HS.out _ (List.getElem_mem hlt)).1
      have hst := Lib.hid (rank_at hlt he.out)
      generalize l[k] = p at *
      have HC := Lib.hid (rcompare_any A1 A _ c1 _ c p.1 key (w.drewN q) (b1'.drewN q) (HK.out.drewN q) (by omega) (by omega))
      clear him b1' b2' e1 he
      by_cases ho : Lt p.1 key
      · have hst2 := Lib.hid (hst.out.trans (if_pos ho))
        have hneg := rcmp_neg.2 ho
        clear ho hst
        go_wp2_with (go_at_call 24; refine HC.out.mono ?_; rintro e w' ⟨rfl, q2, rfl⟩)
        go_roundw
        case rel => exact ⟨k + 1, by omega, by go_num, hst2, (Drawn.refl w).step _⟩
        case measure => simp [intOf]; omega
      · have hst2 := Lib.hid (hst.out.trans (if_neg ho))
        have hneg := mt rcmp_neg.1 ho
        clear ho hst
        go_wp2_with (go_at_call 24; refine HC.out.mono ?_; rintro e w' ⟨rfl, q2, rfl⟩)
        go_ret
        exact ⟨by rw [hst2.out]; rfl, (Drawn.refl w).step _⟩
    · have hst2 := Lib.hid (rank_end (Nat.le_of_not_lt hlt) he.out)
      go_wp2
      go_ret
      exact ⟨by rw [hst2.out]; rfl, (Drawn.refl w).step _⟩

set_option maxHeartbeats 1000000 in
set_option maxRecDepth 100000 in
theorem rhas_any {b1 b2 : Nat} (L A : Option Addr) (m d n c : Nat) (l : List Pair) (key : List UInt8) (w : World) (hl : Pairs b1 w L m l) (hk : Bytes b2 w A n key) (hs : Small l) (hn : n ≤ 1000000) (hm : m ≤ 1000000) :
    Calls Try.prog 51 #[.slice L m d, .slice A n c] w fun e w' => e = .returned (.bool (hasL key l)) ∧ Drawn w w' := by
  have HR := Lib.hid (rrank_any L A m d n c l key w hl hk hs hn hm)
  obtain rfl := hk.len
  obtain rfl := hl.len (by omega)
  by_cases hlt : rank key l < l.length
  · obtain ⟨ad, A1, c1, A2, c2, rfl, him, e0, e1, b1', b2'⟩ := hl.at_ hlt
    have hsk := (hs _ (List.getElem_mem hlt)).1
    have hh := Lib.hid (hasL_lt hlt)
    generalize l[rank key l] = p at *
    have HC := Lib.hid (fun q => rcompare_any A1 A _ c1 _ c p.1 key (w.drewN q) (b1'.drewN q) (hk.drewN q) (by omega) (by omega))
    generalize rank key l = r at *
    clear him b1' b2' e1 hl hk hs
    go_enter Try.func51, Try.ntmps51
    go_wp2_with (first
      | (go_at_call 47; refine HR.out.mono ?_; rintro e w' ⟨rfl, q, rfl⟩)
      | (go_at_call 24; refine (HC.out _).mono ?_; rintro e w' ⟨rfl, q2, rfl⟩))
    go_ret
    refine ⟨ret_bool ?_, (Drawn.refl w).step _⟩
    rw [hh.out, Bool.eq_iff_iff]; simp [rcmp_eq]
  · have hh := Lib.hid (hasL_ge (Nat.le_of_not_lt hlt))
    generalize rank key l = r at *
    clear hl hk hs
    go_enter Try.func51, Try.ntmps51
    go_wp2_with (go_at_call 47; refine HR.out.mono ?_; rintro e w' ⟨rfl, q, rfl⟩)
    go_ret
    exact ⟨ret_bool (by rw [hh.out]), (Drawn.refl w).step _⟩

end Go.Proofs.Ytdmckjojeddaaaa
