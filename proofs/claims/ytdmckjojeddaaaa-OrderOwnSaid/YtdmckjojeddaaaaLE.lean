/- Contract of the reference's number: the number of some bytes, the least one first. Conditions: from one to seven bytes. -/
import Derived.Test.YtdmckjojeddaaaaR1
import Derived.Test.YtdmckjojeddaaaaZ0
import Derived.Test.YtdmckjojeddaaaaLA
import Derived.IntWalk
import Derived.Lib.Hide
import Derived.BigQuiet
import Derived.Deep.RegionHeld3
namespace Go.Proofs.Ytdmckjojeddaaaa
open Go.RowKit Go.Proofs.YtdmckjojeddaaaaKit Go.Proofs.YtdmckjojeddaaaaPlain

def numL : List UInt8 → Nat
  | [] => 0
  | b :: bs => b.toNat + 256 * numL bs
theorem numL_lt (bs : List UInt8) : numL bs < 256 ^ bs.length := by
  induction bs with
  | nil => simp [numL]
  | cons b bs ih =>
    have := b.toNat_lt
    simp only [numL, List.length_cons, Nat.pow_succ]
    omega
theorem numL_drop {bs : List UInt8} {j : Nat} (h : j < bs.length) : numL (bs.drop j) = bs[j].toNat + 256 * numL (bs.drop (j + 1)) := by
  rw [List.drop_eq_getElem_cons h, numL]
theorem numL_small {bs : List UInt8} (h : bs.length ≤ 4) (j : Nat) : numL (bs.drop j) < 4294967296 := by
  have h1 := numL_lt (bs.drop j)
  have h2 : 256 ^ (bs.drop j).length ≤ 256 ^ 4 := Nat.pow_le_pow_right (by omega) (by rw [List.length_drop]; omega)
  omega

set_option maxHeartbeats 1000000 in
set_option maxRecDepth 100000 in
theorem number_any {base : Nat} {w : World} (A : Option Addr) (m c : Nat) (bs : List UInt8) (h : Bytes base w A (m + 1) bs) (hm : m < 4) :
    Calls Try.prog 98 #[.slice A (m + 1) c] w fun e w' => e = .returned (.int .i64 (numL bs : Nat)) ∧ w = w' := by
  have hl := h.len
  have H := Lib.hid h
  have HL := Lib.hid hl
  have hs := Lib.hid (fun j => numL_small (bs := bs) (by omega) j)
  clear h hl
  go_enter Try.func98, Try.ntmps98
  go_wp2
  go_loop [3, 4] (fun v3 v4 => (∃ j : Nat, j ≤ m ∧ v4 = .int .i64 (j : Int) ∧ v3 = .int .i64 ((numL (bs.drop (j + 1)) : Nat) : Int)) ∨ (v4 = .int .i64 (-1) ∧ v3 = .int .i64 ((numL bs : Nat) : Int))) (fun _ i => (intOf i + 1).toNat)
  case atStart => exact .inl ⟨m, Nat.le_refl _, rfl, by rw [List.drop_of_length_le (by rw [HL.out]; exact Nat.le_refl _)]; rfl⟩
  case round =>
    rcases hrel with ⟨j, hj, rfl, rfl⟩ | ⟨rfl, rfl⟩
    · have hlt : j < bs.length := by rw [HL.out]; omega
      have hst := numL_drop hlt
      have hn1 := hs.out (j + 1)
      have hn0 := hs.out j
      obtain ⟨ad, rfl, hc⟩ := H.out.at_ (k := j) (by omega)
      rw [List.getD_eq_getElem?_getD, List.getElem?_eq_getElem hlt] at hc
      simp only [Option.getD_some] at hc
      have hb := bs[j].toNat_lt
      generalize bs[j] = b at *
      obtain ⟨N, hN⟩ : ∃ N, N = numL (bs.drop (j + 1)) := ⟨_, rfl⟩
      rw [← hN] at hst hn1 ⊢
      have HST := Lib.hid hst
      have i0 : (0 : Int) ≤ (j : Int) := by omega
      have i1 : (j : Int) < ((m + 1 : Nat) : Int) := by omega
      have hN2 := Lib.hid hN
      rw [hst] at hn0
      clear hst hN hlt
      go_wp2
      go_round
      case rel =>
        cases j with
        | zero => exact .inr ⟨rfl, by have := HST.out; simp only [List.drop_zero] at this; rw [this]; go_num⟩
        | succ j => exact .inl ⟨j, by omega, by go_num, by rw [HST.out]; go_num⟩
      case measure => simp [intOf]
    · go_wp2
      go_ret
      exact ⟨rfl, rfl⟩
end Go.Proofs.Ytdmckjojeddaaaa

namespace Go.Proofs.Ytdmckjojeddaaaa
open Go.RowKit Go.Proofs.YtdmckjojeddaaaaKit Go.Proofs.YtdmckjojeddaaaaPlain

/-- The pairs that are listed in bytes. -/
def listGo (bs : List UInt8) : Option PairL :=
  match bs with
  | [] => some []
  | _ :: x1 :: x2 :: x3 :: rest =>
    if rest.length < x1.toNat + numL [x2, x3] then none
    else (listGo (rest.drop (x1.toNat + numL [x2, x3]))).map fun l => (rest.take x1.toNat, (rest.drop x1.toNat).take (numL [x2, x3])) :: l
  | _ => none
termination_by bs.length
decreasing_by simp; omega
def listedL (bs : List UInt8) : Option PairL :=
  if bs.length < 4 then none else (listGo (bs.drop 4)).bind fun l => if l.length = numL (bs.take 4) then some l else none
theorem listGo_nil : listGo [] = some [] := by rw [listGo]
theorem listGo_short {bs : List UInt8} (h0 : 0 < bs.length) (h : bs.length < 4) : listGo bs = none := by
  match bs, h0, h with
  | [_], _, _ => simp [listGo]
  | [_, _], _, _ => simp [listGo]
  | [_, _, _], _, _ => simp [listGo]
theorem listGo_none {bs : List UInt8} {k : Nat} {a b c d : UInt8} {rest : List UInt8} (e : bs.drop k = a :: b :: c :: d :: rest) (h : rest.length < b.toNat + numL [c, d]) : listGo (bs.drop k) = none := by
  rw [e, listGo, if_pos h]
theorem listGo_some {bs : List UInt8} {k kl vl : Nat} (hk : k + 4 + (kl + vl) ≤ bs.length) (hkl : kl = (bs.getD (k + 1) 0).toNat) (hvl : vl = numL ((bs.drop (k + 2)).take 2)) :
    listGo (bs.drop k) = (listGo (bs.drop (k + 4 + (kl + vl)))).map fun l => ((bs.drop (k + 4)).take kl, (bs.drop (k + 4 + kl)).take vl) :: l := by
  match h : bs.drop k with
  | a :: b :: c :: d :: rest =>
    have e1 : bs.getD (k + 1) 0 = b := by
      have : (bs.drop k)[1]? = some b := by rw [h]; rfl
      rw [List.getElem?_drop] at this
      rw [List.getD_eq_getElem?_getD, this]; rfl
    have e2 : (bs.drop (k + 2)).take 2 = [c, d] := by
      rw [← List.drop_drop, h]; rfl
    have e4 : bs.drop (k + 4) = rest := by rw [← List.drop_drop, h]; rfl
    rw [e1] at hkl
    rw [e2] at hvl
    have hl : rest.length = bs.length - (k + 4) := by rw [← e4, List.length_drop]
    rw [listGo, if_neg (by omega), ← hkl, ← hvl, ← e4, List.drop_drop, List.drop_drop]
  | [] | [_] | [_, _] | [_, _, _] =>
    have := congrArg List.length h
    rw [List.length_drop] at this
    simp at this
    omega
theorem listGo_over {bs : List UInt8} {k : Nat} (hk : k + 4 ≤ bs.length) (h : bs.length < k + 4 + ((bs.getD (k + 1) 0).toNat + numL ((bs.drop (k + 2)).take 2))) : listGo (bs.drop k) = none := by
  match h' : bs.drop k with
  | a :: b :: c :: d :: rest =>
    have e1 : bs.getD (k + 1) 0 = b := by
      have : (bs.drop k)[1]? = some b := by rw [h']; rfl
      rw [List.getElem?_drop] at this
      rw [List.getD_eq_getElem?_getD, this]; rfl
    have e2 : (bs.drop (k + 2)).take 2 = [c, d] := by
      rw [← List.drop_drop, h']; rfl
    have e4 : bs.drop (k + 4) = rest := by rw [← List.drop_drop, h']; rfl
    have hl : rest.length = bs.length - (k + 4) := by rw [← e4, List.length_drop]
    rw [e1, e2] at h
    rw [listGo, if_pos (by omega)]
  | [] | [_] | [_, _] | [_, _, _] =>
    have := congrArg List.length h'
    rw [List.length_drop] at this
    simp at this
    omega

theorem slice_u8 (W : World) (L : Option Addr) (n d f t : Nat) (h1 : f ≤ t) (h2 : t ≤ d) (h3 : f < d) : (Instr.sliceAt 23 (.slice L n d) (some (.int .i64 (f : Int))) (some (.int .i64 (t : Int))) none).run Try.prog W = .ok (.slice (L.map (·.add f)) (t - f) (d - f)) W := by
  rw [run_sliceAt_slice (t := 23) (h := by kernel_rfl)]
  have := run_slice_lh (P := Try.prog) (w := W) 23 L n d (by kernel_rfl) .i64 .i64 (f : Int) (t : Int) (by omega) (by omega) (by omega)
  rw [this]
  have e : Try.prog.elem 23 = 5 := by kernel_rfl
  rw [e, Try.sizeOf5]
  have hne : ¬ d = f := by omega
  simp [Result.andThen, sliced, hne]
theorem add_pos (a : Addr) (n : Nat) (h : n ≠ 0) : a.add n = ⟨a.block, a.off + n, none⟩ := by
  unfold Addr.add
  rw [if_neg h]
theorem Bytes.part {base : Nat} {w : World} {L : Option Addr} {n f t : Nat} {bs : List UInt8} (h : Bytes base w L n bs) (h1 : f ≤ t) (h2 : t ≤ n) : Bytes base w (L.map (·.add f)) (t - f) ((bs.drop f).take (t - f)) := by
  have hc := Reads.cut h (k := f) (cap := n + 1) (by omega) (by omega)
  rw [if_neg (by omega), Nat.mul_one, byteVs_drop] at hc
  have := Reads.take hc (k := t - f) (by omega)
  rw [Nat.mul_one, byteVs_take] at this
  exact this

theorem slice_part {base : Nat} {w : World} {L : Option Addr} {n c f t : Nat} {bs : List UInt8} (h : Bytes base w L n bs) (h1 : f ≤ t) (h2 : t ≤ n) (hc : n ≤ c) :
    ∃ L', (∀ W, (Instr.sliceAt 23 (.slice L n c) (some (.int .i64 (f : Int))) (some (.int .i64 (t : Int))) none).run Try.prog W = .ok (.slice L' (t - f) (c - f)) W) ∧ Bytes base w L' (t - f) ((bs.drop f).take (t - f)) := by
  by_cases hf : f < c
  · exact ⟨_, fun W => slice_u8 W L n c f t h1 (by omega) hf, Bytes.part h h1 h2⟩
  · have e : t - f = 0 := by omega
    refine ⟨L, fun W => ?_, ?_⟩
    · rw [run_sliceAt_slice (t := 23) (h := by kernel_rfl)]
      have := run_slice_lh (P := Try.prog) (w := W) 23 L n c (by kernel_rfl) .i64 .i64 (f : Int) (t : Int) (by omega) (by omega) (by omega)
      rw [this]
      have e2 : Try.prog.elem 23 = 5 := by kernel_rfl
      rw [e2, Try.sizeOf5]
      have hne : c = f := by omega
      simp [Result.andThen, sliced, hne]
    · rw [e, List.take_zero]
      exact Bytes.none_

theorem listed_pair {base : Nat} {w w1 w2 w3 : World} {out : PairL} {v : Value} {Ak Av : Option Addr} {ck cv : Nat} {kx vx : List UInt8} (ho : OwnP base w out v w1) (k1 : Keep No w1.drew w2) (k2 : Keep No w2 w3)
    (hk : w2.ownsRow w1.drew.heap.size 5 1 (.slice Ak kx.length ck) kx.length (byteVs kx)) (hv : w3.ownsRow w2.heap.size 5 1 (.slice Av vx.length cv) vx.length (byteVs vx)) (hck : kx.length ≤ ck) (hcv : vx.length ≤ cv) :
    Reads base (w3.alloc (.cells #[.slice Ak kx.length ck, .slice Av vx.length cv] 82)) 82 2 (some ⟨w3.heap.size, 0, none⟩) 1 [.slice Ak kx.length ck, .slice Av vx.length cv] ∧
    Flat (PairR base (w3.alloc (.cells #[.slice Ak kx.length ck, .slice Av vx.length cv] 82))) 2 [(kx, vx)] [.slice Ak kx.length ck, .slice Av vx.length cv] ∧
    (∃ xs, (w3.alloc (.cells #[.slice Ak kx.length ck, .slice Av vx.length cv] 82)).ownsRow w.heap.size 82 2 v out.length xs ∧ Flat (PairR base (w3.alloc (.cells #[.slice Ak kx.length ck, .slice Av vx.length cv] 82))) 2 out xs) ∧
    Keep No w (w3.alloc (.cells #[.slice Ak kx.length ck, .slice Av vx.length cv] 82)) := by
  have O := (ho.later k1.of_drew).later k2
  obtain ⟨h1, h2⟩ := pair_new (base := base) (w := w3) ((Bytes.of_own hk).new_ k2) (Bytes.of_own hv) hck hcv
  obtain ⟨xs, h3, h4, h5⟩ := O.alloc (.cells #[.slice Ak kx.length ck, .slice Av vx.length cv] 82)
  exact ⟨h1, h2, ⟨xs, h3, h4⟩, h5⟩

/-- What listed hands back. -/
def ListedRet (base : Nat) (w : World) (o : Option PairL) (e : Ending) (w' : World) : Prop := Keep No w w' ∧ match o with
  | none => ∃ v, e = .returned (.tuple #[v, .bool false])
  | some l => ∃ A c, e = .returned (.tuple #[.slice A l.length c, .bool true]) ∧ l.length ≤ c ∧ OwnP base w l (.slice A l.length c) w' ∧ Small l

set_option maxHeartbeats 4000000 in
set_option maxRecDepth 100000 in
theorem listed_any {base : Nat} {w : World} (A : Option Addr) (n c : Nat) (bs : List UInt8) (h : Bytes base w A n bs) (hc : n ≤ c) (hn : n ≤ 400000) (hb : base ≤ w.heap.size) :
    Calls Try.prog 73 #[.slice A n c] w (ListedRet base w (listedL bs)) := by
  obtain rfl := h.len
  have H := Lib.hid h
  clear h
  by_cases h4 : bs.length < 4
  · have hr := Lib.hid (show listedL bs = none by rw [listedL, if_pos h4])
    go_enter Try.func73, Try.ntmps73
    go_wp2
    go_ret2
    rw [hr.out]
    exact ⟨Keep.refl _ _, _, rfl⟩
  have hn4 : 4 ≤ bs.length := by omega
  obtain ⟨i0, hi0, hz0, hz1, hz2⟩ := info_parts info_pair
  have HB4 := Lib.hid (show Bytes base w A 4 (bs.take 4) from by
    have := Reads.take H.out (k := 4) hn4
    rw [Nat.mul_one, byteVs_take] at this
    exact this)
  have HN := Lib.hid (number_any A 3 c (bs.take 4) HB4.out (by omega))
  have hd4 : decide ((bs.length : Int) < 4) = false := decide_eq_false (by omega)
  clear HB4 h4
  obtain ⟨num, hnum⟩ : ∃ x, x = numL (bs.take 4) := ⟨_, rfl⟩
  have HNUM := Lib.hid hnum
  rw [← hnum] at HN
  have H0 := Lib.hid (show listGo (bs.drop 4) = (listGo (bs.drop 4)).map (fun l => ([] : PairL) ++ l) by simp)
  clear hnum
  go_enter Try.func73, Try.ntmps73
  go_wp2_with fail
  refine HN.out.mono ?_
  rintro e w' ⟨rfl, rfl⟩
  clear HN
  go_wp2_with fail
  go_loopw [5, 6] (fun v5 v6 wr => ∃ (k : Nat) (out : PairL), 4 ≤ k ∧ k ≤ bs.length ∧ v5 = .int .i64 k ∧ Hid (listGo (bs.drop 4) = (listGo (bs.drop k)).map (fun l => out ++ l)) ∧ OwnP base w out v6 wr ∧ Hid (Small out) ∧ out.length ≤ k) (fun i _ _ => bs.length - (intOf i).toNat)
  case atStart => exact ⟨4, [], Nat.le_refl _, hn4, rfl, H0, OwnP.start _ _, Lib.hid (fun p hp => by cases hp), by simp⟩
  case round =>
    clear H0
    obtain ⟨k, out, hk4, hk, rfl, he, ho, hsm, hol⟩ := hrel
    obtain ⟨A0, n0, c0, rfl, hn0, hc0⟩ := ho.shape
    obtain rfl := hn0.out
    clear hn0
    by_cases hlt : k < bs.length
    · by_cases hsh : bs.length - k < 4
      · have hr := Lib.hid (show listedL bs = none by rw [listedL, if_neg (by omega), he.out, listGo_short (by rw [List.length_drop]; omega) (by rw [List.length_drop]; omega)]; rfl)
        have hdl : decide ((bs.length : Int) - (k : Int) < 4) = true := decide_eq_true (by omega)
        have HO := Lib.hid ho.keepTo
        clear ho he
        go_wp2
        go_ret2
        rw [hr.out]
        exact ⟨HO.out, _, rfl⟩
      · have hdl : decide ((bs.length : Int) - (k : Int) < 4) = false := decide_eq_false (by omega)
        have hab : bs.length - k ≥ 4 := by omega
        have hbw := H.out.new_ ho.keepTo
        obtain ⟨ad, rfl, y1⟩ := hbw.at_ (k := k + 1) (by omega)
        have hb1 := (bs.getD (k + 1) 0).toNat_lt
        rw [add_pos _ _ (by omega)] at y1
        have HBW := Lib.hid hbw
        have HP2 := Lib.hid (show Bytes base wr (some ⟨ad.block, ad.off + (k + 2), none⟩) 2 ((bs.drop (k + 2)).take 2) from by
          have := Bytes.part hbw (f := k + 2) (t := k + 2 + 2) (by omega) (by omega)
          rwa [Nat.add_sub_cancel_left, Option.map_some, add_pos _ _ (by omega)] at this)
        have HV2 := Lib.hid (numL_small (bs := (bs.drop (k + 2)).take 2) (by rw [List.length_take]; omega) 0)
        have hv2 : numL ((bs.drop (k + 2)).take 2) < 65536 := by
          have := numL_lt ((bs.drop (k + 2)).take 2)
          have hl : ((bs.drop (k + 2)).take 2).length = 2 := by rw [List.length_take, List.length_drop]; omega
          rw [hl] at this
          omega
        have HNN := Lib.hid (fun q => number_any (some ⟨ad.block, ad.off + (k + 2), none⟩) 1 (c - (k + 2)) ((bs.drop (k + 2)).take 2) (HP2.out.drewN q) (by omega))
        have hsl : ∀ W, (Instr.sliceAt 23 (.slice (some ad) bs.length c) (some (.int .i64 ((k : Int) + 2))) (some (.int .i64 ((k : Int) + 4))) none).run Try.prog W = .ok (.slice (some ⟨ad.block, ad.off + (k + 2), none⟩) (1 + 1) (c - (k + 2))) W := fun W => by
          have := slice_u8 W (some ad) bs.length c (k + 2) (k + 4) (by omega) (by omega) (by omega)
          rw [show k + 4 - (k + 2) = 1 + 1 by omega, Option.map_some, add_pos _ _ (by omega)] at this
          exact this
        obtain ⟨kl, hkl⟩ : ∃ x, x = (bs.getD (k + 1) 0).toNat := ⟨_, rfl⟩
        obtain ⟨vl, hvl⟩ : ∃ x, x = numL ((bs.drop (k + 2)).take 2) := ⟨_, rfl⟩
        rw [← hkl] at y1 hb1
        rw [← hvl] at HNN hv2
        have HKL := Lib.hid hkl
        have HVL := Lib.hid hvl
        have HO := Lib.hid ho
        clear hkl hvl ho hbw HV2
        have i1 : (0 : Int) ≤ (k : Int) + 1 := by omega
        have i2 : (k : Int) + 1 < (bs.length : Int) := by omega
        have s3 : ((k : Int) + 1).toNat = k + 1 := by omega
        have s1 : IntKind.i64.wrap ((k : Int) + 1) = (k : Int) + 1 := IntWalk.i64_in _ (by omega)
        have s2 : IntKind.i64.wrap ((k : Int) + 2) = (k : Int) + 2 := IntWalk.i64_in _ (by omega)
        have s4 : IntKind.i64.wrap ((k : Int) + 4) = (k : Int) + 4 := IntWalk.i64_in _ (by omega)
        go_wp2_with fail
        go_quiet ((go_at_call 98; exact quiet_drawn (HNN.out _)))
        clear s1 s2 s3 s4 i1 i2 hsl y1 HNN
        obtain ⟨w1, hw1⟩ : ∃ x, x = wr.drewN nq := ⟨_, rfl⟩
        rw [← hw1]
        have k1 : Keep No wr w1 := hw1 ▸ (Keep.refl No wr).drewN nq
        have HO1 := Lib.hid (HO.out.later k1)
        have HB1 := Lib.hid (HBW.out.new_ k1)
        clear k1 hw1 HO HBW HP2
        obtain ⟨K, hK⟩ : ∃ K, K = k + 4 := ⟨_, rfl⟩
        have hK1 : K ≤ bs.length := by omega
        have hK2 : (k : Int) + 4 = (K : Int) := by omega
        have HKK := Lib.hid hK
        clear hK
        obtain ⟨kv, hkv⟩ : ∃ x, x = kl + vl := ⟨_, rfl⟩
        have hkvI : (kl : Int) + (vl : Int) = (kv : Int) := by omega
        have hkv1 : kl + vl ≤ kv := by omega
        have hkv2 : kv ≤ kl + vl := by omega
        have HKV := Lib.hid hkv
        clear hkv
        by_cases hov : bs.length < K + kv
        · have hr := Lib.hid (show listedL bs = none by
            rw [listedL, if_neg (by omega), he.out, listGo_over (by omega) (by rw [← HKL.out, ← HVL.out, ← HKK.out]; omega)]; rfl)
          have hdo : decide ((bs.length : Int) - (K : Int) < (kv : Int)) = true := decide_eq_true (by omega)
          clear he
          go_wp2
          go_ret2
          rw [hr.out]
          exact ⟨HO1.out.keepTo, _, rfl⟩
        · have hdo : decide ((bs.length : Int) - (K : Int) < (kv : Int)) = false := decide_eq_false (by omega)
          have HST := Lib.hid (listGo_some (bs := bs) (k := k) (by rw [← HKK.out]; omega) HKL.out HVL.out)
          rw [← HKK.out] at HST
          clear hdl hsh hab
          obtain ⟨A1, hs1, hb1'⟩ := slice_part H.out (f := K) (t := K + kl) (c := c) (by omega) (by omega) hc
          obtain ⟨A2, hs2, hb2'⟩ := slice_part H.out (f := K + kl) (t := K + kl + vl) (c := c) (by omega) (by omega) hc
          rw [Nat.add_sub_cancel_left] at hb1' hb2'
          have hsl1 : ∀ W, (Instr.sliceAt 23 (.slice (some ad) bs.length c) (some (.int .i64 (K : Int))) (some (.int .i64 ((K : Int) + (kl : Int)))) none).run Try.prog W = .ok (.slice A1 kl (c - K)) W := fun W => by
            have := hs1 W
            rwa [Nat.add_sub_cancel_left] at this
          have hsl2 : ∀ W, (Instr.sliceAt 23 (.slice (some ad) bs.length c) (some (.int .i64 ((K : Int) + (kl : Int)))) (some (.int .i64 ((K : Int) + (kl : Int) + (vl : Int)))) none).run Try.prog W = .ok (.slice A2 vl (c - (K + kl))) W := fun W => by
            have := hs2 W
            rwa [Nat.add_sub_cancel_left] at this
          have s1 : IntKind.i64.wrap ((K : Int) + (kl : Int)) = (K : Int) + (kl : Int) := IntWalk.i64_in _ (by omega)
          have s2 : IntKind.i64.wrap ((K : Int) + (kl : Int) + (vl : Int)) = (K : Int) + (kl : Int) + (vl : Int) := IntWalk.i64_in _ (by omega)
          obtain ⟨kx, hkx⟩ : ∃ x, x = (bs.drop K).take kl := ⟨_, rfl⟩
          obtain ⟨vx, hvx⟩ : ∃ x, x = (bs.drop (K + kl)).take vl := ⟨_, rfl⟩
          rw [← hkx] at hb1'
          rw [← hvx] at hb2'
          have hkxl := hb1'.len
          have hvxl := hb2'.len
          have HCT := Lib.hid (show _ ∧ _ from ⟨hkx, hvx⟩)
          have C1 := Lib.hid (fun W (h : Keep No w W) => rcopy_any (base := base) A1 kl (c - K) kx W (hb1'.new_ h) (by omega))
          have C2 := Lib.hid (fun W (h : Keep No w W) => rcopy_any (base := base) A2 vl (c - (K + kl)) vx W (hb2'.new_ h) (by omega))
          have HLN := Lib.hid (show _ ∧ _ from ⟨hkxl, hvxl⟩)
          clear hs1 hs2 hb1' hb2' hkx hvx hkxl hvxl
          go_wp2_with fail
          have hkw1 : Keep No w w1.drew := HO1.out.keepTo.drew
          go_region_held3 (fun w' => Keep No w w')
            (first
              | (with_reducible exact hkw1)
              | (with_reducible exact HK1)
              | (with_reducible exact HK2)
              | (with_reducible exact HK5)
              | (with_reducible refine Keep.alloc ?_ _; with_reducible assumption)
              | fail)
            (first
              | (go_at_call_of 42 (Value.slice A1 kl (c - K)); refine (C1.out _ (by with_reducible assumption)).mono ?_; rintro e w2 ⟨Ak, ck, rfl, hck, hownk, hkd1⟩; have HK1 := Keep.trans hkw1 hkd1 (fun _ x => x.elim))
              | (go_at_call_of 42 (Value.slice A2 vl (c - (K + kl))); refine (C2.out _ (by with_reducible assumption)).mono ?_; rintro e w3 ⟨Av, cv, rfl, hcv, hownv, hkd2⟩; have HK2 := Keep.trans HK1 hkd2 (fun _ x => x.elim); have H4 := Lib.hid (listed_pair HO1.out hkd1 hkd2 hownk hownv hck hcv))
              | (refine step_append_any _ (by rfl) _ _ _ (by rfl) w.heap.size 82 i0 _ 2 48 Try.underlying35 hi0 hz0 hz1 hz2 rfl (by omega) _ _ _ (by rfl) H4.out.2.2.1.choose_spec.1 base _ 1 1 _ (by rfl) H4.out.1 (pairs_one H4.out.2.1) (by simp only [maxLen]; omega) (by omega) H4.out.2.2.2.size ?_; intro v5 w5 hown5 hg5 hat5; have O5 := OwnP.push (base := base) hb H4.out.2.2.1.choose_spec.1 H4.out.2.2.1.choose_spec.2 H4.out.2.2.2 H4.out.2.1 rfl hown5 hg5; have HK5 := O5.keepTo; have HO5 := Lib.hid O5; clear hown5 hg5 hat5 O5 H4)
              | fail)
          clear s1 s2 hsl1 hsl2 hkw1 C1 C2 HO1 HB1
          have HE2 := Lib.hid (show listGo (bs.drop 4) = (listGo (bs.drop (K + kv))).map (fun l => (out ++ [(kx, vx)]) ++ l) from by
            rw [he.out, HKV.out, HST, Option.map_map, HCT.out.1, HCT.out.2]
            congr 1
            funext l
            simp)
          have HSM := Lib.hid (show Small (out ++ [(kx, vx)]) from fun p hp => by
            rcases List.mem_append.1 hp with h | h
            · exact hsm.out p h
            · simp at h; subst h
              have h1 := HLN.out.1
              have h2 := HLN.out.2
              exact ⟨by show kx.length ≤ _; omega, by show vx.length ≤ _; omega⟩)
          have h4k : k + 4 ≤ K := by have := HKK.out; omega
          clear he HST HCT hsm
          go_wp2
          go_roundw
          case rel => exact ⟨K + kv, out ++ [(kx, vx)], by omega, by omega, by go_num, HE2, HO5.out, HSM, by rw [List.length_append]; simp; omega⟩
          case measure => simp [intOf]; omega
    · obtain rfl : k = bs.length := by omega
      have hlg := he.out
      rw [List.drop_length, listGo_nil] at hlg
      simp only [Option.map_some, List.append_nil] at hlg
      have hL := Lib.hid (show listedL bs = if out.length = num then some out else none from by rw [listedL, if_neg (by omega), hlg, HNUM.out]; rfl)
      have HO := Lib.hid ho
      clear he hlg ho
      by_cases hnum : out.length = num
      · have hde : ((out.length : Int) == (num : Int)) = true := by rw [hnum]; simp
        have hL2 := Lib.hid (hL.out.trans (if_pos hnum))
        clear hL hnum
        go_wp2
        go_ret2
        rw [hL2.out]
        exact ⟨HO.out.keepTo, A0, c0, rfl, hc0, HO.out, hsm.out⟩
      · have hde : ((out.length : Int) == (num : Int)) = false := by simp; omega
        have hL2 := Lib.hid (hL.out.trans (if_neg hnum))
        clear hL hnum
        go_wp2
        go_ret2
        rw [hL2.out]
        exact ⟨HO.out.keepTo, _, rfl⟩
end Go.Proofs.Ytdmckjojeddaaaa
