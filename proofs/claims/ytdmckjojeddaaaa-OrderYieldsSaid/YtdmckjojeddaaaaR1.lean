/- Contract of the reference's Copy. Conditions: the length is at most a million. -/
import Derived.Test.YtdmckjojeddaaaaC5
import Derived.Test.YtdmckjojeddaaaaP1
import Derived.Test.YtdmckjojeddaaaaKit
import Derived.Laws.CopyOwn
namespace Go.Proofs.Ytdmckjojeddaaaa
open Go.RowKit Go.Proofs.YtdmckjojeddaaaaKit Go.Proofs.YtdmckjojeddaaaaPlain

theorem info_size_u8 : (Try.prog.info? 5).map (·.size) = some 1 := by kernel_rfl

theorem _root_.Go.RowKit.Below.keepNo {w w1 : World} (h : Below w.heap.size w w1) : Keep No w w1 := Keep.below h
theorem _root_.Go.Proofs.YtdmckjojeddaaaaKit.Bytes.src {base : Nat} {w : World} {A : Option Addr} {n : Nat} {bs : List UInt8} (h : Bytes base w A n bs) (hp : 0 < (byteVs bs).length) : ∃ ad, A = some ad ∧ ∀ j v, (byteVs bs)[j]? = some v → w.cell? (ad.add j) = some v := by
  obtain ⟨ad, e, _, hc⟩ := h.2 (by have := h.len; rw [byteVs_length] at hp; omega)
  exact ⟨ad, e, hc⟩
theorem made_below {w w1 : World} (hg1 : w.grownBy w1 none) : Below w.heap.size w w1 := ⟨hg1.os, hg1.tape, hg1.output, hg1.size, fun k hk => hg1.block k hk (by simp)⟩
theorem made_facts {w w1 : World} {n : Nat} {e : TypeId} {zs : List Value} (h : w1.ownsRow w.heap.size e 1 (.slice (some ⟨w.heap.size, 0, none⟩) n n) n zs) :
    ∃ cur : List Value, Hid (w1.heap[w.heap.size]? = some (.cells cur.toArray e (0, 0))) ∧ n ≤ maxLen ∧ Hid (cur.length = n) := by
  rcases h.2 with ⟨hv, _⟩ | ⟨g, cap, cur, hv, h2, h3, h4, h5, h6, _⟩
  · cases hv
  · injection hv with hv1 _ hv2
    injection hv1 with hv1
    injection hv1 with hv1
    subst hv1
    subst hv2
    exact ⟨cur.toList, Lib.hid h3, h5, Lib.hid (by simp [h6])⟩
theorem splice_whole (cur cs : List Value) (h : cs.length = cur.length) : splice cur 0 cs = cs := by
  unfold splice
  simp [h]

set_option maxHeartbeats 1000000 in
set_option maxRecDepth 100000 in
theorem rcopy_any {base : Nat} (A : Option Addr) (n c : Nat) (bs : List UInt8) (w : World) (h : Bytes base w A n bs) (hn : n ≤ 1000000) :
    Calls Try.prog 42 #[.slice A n c] w (Cloned w bs) := by
  obtain ⟨i0, hi0, hz0, hz1, hz2⟩ := info_parts info_u8
  obtain rfl := h.len
  have H := Lib.hid h
  clear h
  have HML := Lib.hid (show (byteVs bs).length = Nat.min bs.length bs.length by rw [byteVs_length]; exact (Nat.min_self _).symm)
  go_enter Try.func42, Try.ntmps42
  go_wp2_with (first
    | (at_make; refine wpList_make_full _ rfl _ _ _ rfl w.heap.size 5 i0 _ 1 Try.underlying23 hi0 hz0 hz1 _ _ _ _ bs.length rfl rfl rfl rfl (by rw [hz2]; omega) (by simp only [maxLen]; omega) (Nat.le_refl _) ?_; intro w1 hown1 hg1; obtain ⟨cur, hh, hcm, hcl⟩ := made_facts hown1; have HB := Lib.hid (made_below hg1); have HS := Lib.hid (fun hp => (Bytes.new_ H.out (Keep.below HB.out)).src hp); clear hown1 hg1)
    | (refine wpList_copy_splice (o := ⟨some 9, _, _, _, _, _⟩) rfl (.tmp 7) (.tmp 8) 23 23 rfl 5 Try.underlying23 info_size_u8 (some ⟨w.heap.size, 0, none⟩) A bs.length bs.length bs.length c (by rfl) (by rfl) w.heap.size 0 cur 5 hh.out (byteVs bs) HML.out (fun hp => ⟨rfl, HS.out hp⟩) (by rw [byteVs_length, hcl.out]; omega) (byteVs_one _) w.heap.size w HB.out (Nat.le_refl _) ?_; intro w2 hh2 hb2))
  go_ret
  have hh3 := hh2.out
  rw [splice_whole _ _ (by rw [byteVs_length, hcl.out])] at hh3
  exact ⟨some ⟨w.heap.size, 0, none⟩, bs.length, rfl, Nat.le_refl _, ⟨by simp [byteVs_length], .inr ⟨w.heap.size, bs.length, _, rfl, Nat.le_refl _, hh3, Nat.le_refl _, hcm, by simp [byteVs_length], by simp only [Nat.mul_one]; exact List.take_of_length_le (by rw [byteVs_length]; exact Nat.le_refl _)⟩⟩, Keep.below hb2⟩

end Go.Proofs.Ytdmckjojeddaaaa

namespace Go.Proofs.Ytdmckjojeddaaaa
open Go.RowKit Go.Proofs.YtdmckjojeddaaaaKit Go.Proofs.YtdmckjojeddaaaaPlain

/-- All lengths are those that statements hand in. -/
def Small (l : List Pair) : Prop := ∀ p ∈ l, p.1.length ≤ 1000000 ∧ p.2.length ≤ 1000000

set_option maxHeartbeats 1000000 in
set_option maxRecDepth 100000 in
theorem rrank_any {b1 b2 : Nat} (L A : Option Addr) (m d n c : Nat) (l : List Pair) (key : List UInt8) (w : World) (hl : Pairs b1 w L m l) (hk : Bytes b2 w A n key) (hs : Small l) (hn : n ≤ 1000000) (hm : m ≤ 1000000) :
    Calls Try.prog 47 #[.slice L m d, .slice A n c] w fun e w' => e = .returned (.int .i64 (rank key l : Nat)) ∧ Drawn w w' := by
  obtain rfl := hk.len
  obtain rfl := hl.len (by omega)
  have HL := Lib.hid hl
  have HK := Lib.hid hk
  have HS := Lib.hid hs
  clear hl hk hs
  go_enter Try.func47, Try.ntmps47
  go_wp2
  go_loopw [5] (fun v5 wr => ∃ k : Nat, k ≤ l.length ∧ v5 = .int .i64 k ∧ Hid (rank key l = k + rank key (l.drop k)) ∧ Drawn w wr) (fun i _ => l.length - (intOf i).toNat)
  case atStart => exact ⟨0, Nat.zero_le _, rfl, Lib.hid (by simp), Drawn.refl _⟩
  case round =>
    obtain ⟨k, hk, rfl, he, q, rfl⟩ := hrel
    by_cases hlt : k < l.length
    · obtain ⟨ad, A1, c1, A2, c2, rfl, him, e0, e1, b1', b2'⟩ := HL.out.at_ hlt
      have hsk := (HS.out _ (List.getElem_mem hlt)).1
      have hst := Lib.hid (rank_at hlt he.out)
      generalize l[k] = p at *
      have HC := Lib.hid (rcompare_any A1 A _ c1 _ c p.1 key (w.drewN q) (b1'.drewN q) (HK.out.drewN q) (by omega) (by omega))
      clear him b1' b2' e1 he
      by_cases ho : Lt p.1 key
      · have hst2 := Lib.hid (hst.out.trans (if_pos ho))
        have hneg := rcmp_neg.2 ho
        clear ho hst
        go_wp2_with (go_at_call 24; refine HC.out.mono ?_; rintro e w' ⟨rfl, q2, rfl⟩)
        go_roundw
        case rel => exact ⟨k + 1, by omega, by go_num, hst2, (Drawn.refl w).step _⟩
        case measure => simp [intOf]; omega
      · have hst2 := Lib.hid (hst.out.trans (if_neg ho))
        have hneg := mt rcmp_neg.1 ho
        clear ho hst
        go_wp2_with (go_at_call 24; refine HC.out.mono ?_; rintro e w' ⟨rfl, q2, rfl⟩)
        go_ret
        exact ⟨by rw [hst2.out]; rfl, (Drawn.refl w).step _⟩
    · have hst2 := Lib.hid (rank_end (Nat.le_of_not_lt hlt) he.out)
      go_wp2
      go_ret
      exact ⟨by rw [hst2.out]; rfl, (Drawn.refl w).step _⟩

set_option maxHeartbeats 1000000 in
set_option maxRecDepth 100000 in
theorem rhas_any {b1 b2 : Nat} (L A : Option Addr) (m d n c : Nat) (l : List Pair) (key : List UInt8) (w : World) (hl : Pairs b1 w L m l) (hk : Bytes b2 w A n key) (hs : Small l) (hn : n ≤ 1000000) (hm : m ≤ 1000000) :
    Calls Try.prog 51 #[.slice L m d, .slice A n c] w fun e w' => e = .returned (.bool (hasL key l)) ∧ Drawn w w' := by
  have HR := Lib.hid (rrank_any L A m d n c l key w hl hk hs hn hm)
  obtain rfl := hk.len
  obtain rfl := hl.len (by omega)
  by_cases hlt : rank key l < l.length
  · obtain ⟨ad, A1, c1, A2, c2, rfl, him, e0, e1, b1', b2'⟩ := hl.at_ hlt
    have hsk := (hs _ (List.getElem_mem hlt)).1
    have hh := Lib.hid (hasL_lt hlt)
    generalize l[rank key l] = p at *
    have HC := Lib.hid (fun q => rcompare_any A1 A _ c1 _ c p.1 key (w.drewN q) (b1'.drewN q) (hk.drewN q) (by omega) (by omega))
    generalize rank key l = r at *
    clear him b1' b2' e1 hl hk hs
    go_enter Try.func51, Try.ntmps51
    go_wp2_with (first
      | (go_at_call 47; refine HR.out.mono ?_; rintro e w' ⟨rfl, q, rfl⟩)
      | (go_at_call 24; refine (HC.out _).mono ?_; rintro e w' ⟨rfl, q2, rfl⟩))
    go_ret
    refine ⟨ret_bool ?_, (Drawn.refl w).step _⟩
    rw [hh.out, Bool.eq_iff_iff]; simp [rcmp_eq]
  · have hh := Lib.hid (hasL_ge (Nat.le_of_not_lt hlt))
    generalize rank key l = r at *
    clear hl hk hs
    go_enter Try.func51, Try.ntmps51
    go_wp2_with (go_at_call 47; refine HR.out.mono ?_; rintro e w' ⟨rfl, q, rfl⟩)
    go_ret
    exact ⟨ret_bool (by rw [hh.out]), (Drawn.refl w).step _⟩

end Go.Proofs.Ytdmckjojeddaaaa
