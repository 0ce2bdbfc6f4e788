/- OrderHalves: the walk. Conditions: none but that the arguments are read. -/
import Derived.Test.YtdmckjojeddaaaaW2
import Derived.Test.YtdmckjojeddaaaaX2
namespace Go.Proofs.Ytdmckjojeddaaaa
open Go.RowKit Go.Proofs.YtdmckjojeddaaaaKit Go.Proofs.YtdmckjojeddaaaaPlain

theorem pairs_nil {base : Nat} {w : World} : Pairs base w none 0 [] := ⟨[], Reads.none_, Flat.nil⟩
theorem fits_split {l : PairL} (hs : Sorted l) (r : Nat) : fitsL (l.take r) (l.drop r) = 0 := by
  unfold fitsL
  rw [if_neg]
  rintro ⟨h1, h2, h3⟩
  apply h3
  rw [← List.take_append_drop r l] at hs
  obtain ⟨_, _, h⟩ := sorted_append.1 hs
  obtain ⟨p, hp, e⟩ := lastKey_mem h1
  rw [← e]
  cases hd : l.drop r with
  | nil => exact absurd hd h2
  | cons q t => exact h p hp q (by rw [hd]; exact List.mem_cons_self)

theorem MSt.self {base : Nat} {w : World} {mb : Nat} {seed : Int} {l : PairL} {F : List Nat} (h : MSt base w mb seed l F) : mb ∈ F := by
  obtain ⟨_, _, _, _, rfl⟩ := h
  exact List.mem_cons_self

set_option maxHeartbeats 8000000 in
set_option maxRecDepth 100000 in
theorem orderHalves_walk {base : Nat} (seed : Int) (Lp : Option Addr) (m d : Nat) (l : PairL) (A : Option Addr) (n c : Nat) (key : List UInt8) (w : World) (hl : Pairs base w Lp m l) (hk : Bytes base w A n key) (hb : base ≤ w.heap.size) :
    Calls Try.prog 10 #[.int .u64 seed, .slice Lp m d, .slice A n c] w fun e w' => e = .returned (.bool true) ∧ Keep No w w' := by
  have H0 := Lib.hid (rising_any Lp m d l w hl hb)
  have HL := Lib.hid (show _ ∧ _ from ⟨hl, hk⟩)
  have hnk := hk.len
  clear hl hk
  cases hr : risingL l with
  | none =>
    rw [hr] at H0
    clear hr
    go_enter Try.func10, Try.ntmps10
    go_wp2_with fail
    refine H0.out.mono ?_
    rintro e w1 ⟨rfl, hk⟩
    have HK := Lib.hid hk
    clear hk
    go_wp2
    go_ret
    exact ⟨rfl, HK.out⟩
  | some out =>
    rw [hr] at H0
    obtain ⟨hl4, hout, hok⟩ := risingL_some hr
    have HR := Lib.hid (show _ ∧ _ ∧ _ from ⟨hout, hok, risingL_sorted hr⟩)
    clear hr hout hok
    go_enter Try.func10, Try.ntmps10
    go_wp2_with fail
    refine H0.out.mono ?_
    rintro e w1 ⟨A1, c1, rfl, hc1, ho1, hok1, hl1⟩
    have H1 := Lib.hid (show _ ∧ _ ∧ _ from ⟨ho1.keepTo, hok1, OwnP.pairs ho1⟩)
    clear ho1 hok1 H0
    have HLG := Lib.hid (long_any A n c w1)
    by_cases hlong : 2000 < n
    · rw [decide_eq_true hlong] at HLG
      go_wp2_with (go_at_call 15; refine HLG.out.mono ?_; rintro e w' ⟨rfl, rfl⟩)
      go_ret
      exact ⟨rfl, H1.out.1⟩
    rw [decide_eq_false hlong] at HLG
    go_wp2_with (go_at_call 15; refine HLG.out.mono ?_; rintro e w' ⟨rfl, rfl⟩)
    refine (new_any seed _).mono ?_
    rintro e w2 ⟨rfl, rfl⟩
    have hb1 : base ≤ w1.heap.size := Nat.le_trans hb H1.out.1.size
    have k2 := (Keep.refl No w1).alloc (.cells #[.bool true, .int .u64 seed, .pointer none] 106)
    have M2 : MSt base _ w1.heap.size seed [] [w1.heap.size] := MSt.made (seed := seed) hb1
    have hP := lput_any (back := false) (d := d) M2 (HL.out.1.new_ (H1.out.1.trans k2 (fun _ x => x.elim))) HR.out.2.1 (by simp; omega) (Nat.le_trans hb1 k2.size)
    rw [if_neg (by decide), ← HR.out.1] at hP
    have HP := Lib.hid hP
    have K2 := Lib.hid k2
    clear hP k2 M2 HLG
    go_wp2_with fail
    refine HP.out.mono ?_
    rintro e w3 ⟨rfl, F3, hM3, hk3, hF3⟩
    have k3 : Keep No w1 w3 := K2.out.trans hk3 (fun x hx => .inr (by simp [In] at hx; omega))
    have hF3' : ∀ x ∈ F3, w1.heap.size ≤ x := fun x hx => by
      rcases hF3 x hx with h | h
      · simp at h; omega
      · exact Nat.le_trans K2.out.size h
    have H3 := Lib.hid (show _ ∧ _ ∧ _ from ⟨hM3, k3, hF3'⟩)
    have HRK := Lib.hid (rrank_any A1 A out.length c1 n c out key w3 (H1.out.2.2.new_ k3) (HL.out.2.new_ (H1.out.1.trans k3 (fun _ x => x.elim))) H1.out.2.1.small (by omega) (by omega))
    have hrl := rank_le key out
    have HRE := Lib.hid (show out.take (rank key out) ++ out.drop (rank key out) = out from List.take_append_drop _ _)
    have HFS := Lib.hid (fits_split HR.out.2.2 (rank key out))
    have HMC := Lib.hid (fun W (h : MSt base W w1.heap.size seed out F3) (k : Keep No w1 W) => cut_any (c := c) h (HL.out.2.new_ (H1.out.1.trans k (fun _ x => x.elim))) (Nat.le_trans hb1 k.size) (by omega))
    unfold MCut at HMC
    clear hM3 hk3 hF3 k3 hF3' HP K2
    generalize rank key out = r at *
    go_wp2_with fail
    refine HRK.out.mono ?_
    rintro e w4 ⟨rfl, q, rfl⟩
    have K4 := Lib.hid (H3.out.2.1.drewN q)
    have HC := Lib.hid (HMC.out _ (H3.out.1.new_ ((Keep.refl No w3).drewN q)) K4.out)
    clear HRK HMC
    go_wp2_with fail
    refine HC.out.mono ?_
    rintro e w5 ⟨a, b, Fa, Fb, rfl, m5, ma, mb, hab, hma, hmb, hfa, hfb, k5⟩
    have K5 := Lib.hid (K4.out.trans k5 (fun x hx => .inr (H3.out.2.2 x hx)))
    have H5 := Lib.hid (show _ ∧ _ ∧ _ ∧ _ ∧ _ ∧ _ ∧ _ ∧ _ from ⟨m5, ma, mb, hab, hma, hmb, (fun x hx => (hfa x hx).elim (fun h => H3.out.2.2 x h) (fun h => Nat.le_trans K4.out.size h) : ∀ x ∈ Fa, w1.heap.size ≤ x), (fun x hx => (hfb x hx).elim (fun h => H3.out.2.2 x h) (fun h => Nat.le_trans K4.out.size h) : ∀ x ∈ Fb, w1.heap.size ≤ x)⟩)
    have hb5 : base ≤ w5.heap.size := Nat.le_trans hb1 K5.out.size
    have HP5 := Lib.hid (H1.out.2.2.new_ K5.out)
    have HPC := Lib.hid (pairs_cut (k := r) HP5.out hrl hc1 rfl)
    have HW1 := Lib.hid (whole_any (d := 0) m5 (pairs_nil) (Nat.le_refl _) hb5 (by simp))
    have HW2 := Lib.hid (fun W (k : Keep No w5 W) => whole_any (d := c1) (Lp := A1) (ma.new_ k) (show Pairs base W A1 r (out.take r) from (show Pairs base w5 A1 r (out.take r) from HPC.out.1).new_ k) (by omega) (Nat.le_trans hb5 k.size) (by rw [List.length_take]; omega))
    have HPD := Lib.hid (show Pairs base w5 (if c1 = r then A1 else A1.map (·.add (r * 2))) (out.length - r) (out.drop r) from HPC.out.2)
    have HW3 := Lib.hid (fun W (k : Keep No w5 W) (Lq : Option Addr) (dq : Nat) (hp : Pairs base W Lq (out.length - r) (out.drop r)) (hd : out.length - r ≤ dq) => whole_any (d := dq) (mb.new_ k) hp hd (Nat.le_trans hb5 k.size) (by rw [List.length_drop]; omega))
    have r0 : (0 : Int) ≤ (r : Int) := by omega
    have r1 : (r : Int) ≤ (out.length : Int) := by omega
    have r2 : (out.length : Int) ≤ (c1 : Int) := by omega
    have r3 : (r : Int) ≤ (c1 : Int) := by omega
    clear m5 ma mb hab hma hmb hfa hfb k5 HC H3 K4
    go_wp2_with fail
    refine HW1.out.mono ?_
    rintro e w6 ⟨rfl, k6⟩
    have K6 := Lib.hid k6
    clear k6 HW1
    go_wp2_with fail
    refine (HW2.out _ K6.out).mono ?_
    rintro e w7 ⟨rfl, k7⟩
    have K7 := Lib.hid (K6.out.trans k7 (fun _ x => x.elim))
    clear k7 HW2
    go_wp2_with fail
    all_goals
      first
        | (have hcr : c1 = r := by assumption
           subst hcr
           refine (HW3.out _ K7.out _ _ (by have := HPD.out; rw [if_pos rfl] at this; exact this.new_ K7.out) (by omega)).mono ?_)
        | (have hcr : ¬ c1 = r := by assumption
           refine (HW3.out _ K7.out _ _ (by have := HPD.out; rw [if_neg hcr] at this; exact this.new_ K7.out) (by omega)).mono ?_)
      rintro e w8 ⟨rfl, k8⟩
      have K8 := Lib.hid (K7.out.trans k8 (fun _ x => x.elim))
      have HJ := Lib.hid (join_maps (H5.out.2.1.new_ K8.out) (H5.out.2.2.1.new_ K8.out) H5.out.2.2.2.1 (Nat.le_trans hb5 K8.out.size) (by rw [List.length_take, List.length_drop]; omega))
      clear k8 HW3 HPD HPC
      go_wp2_with fail
      refine HJ.out.mono ?_
      rintro e w9 hj
      obtain ⟨cc, H9, rfl, m9, ma9, mb9, hca, hcb, hH, k9⟩ := hj.2 HFS.out
      rw [HRE.out] at m9
      have hmut : ∀ x, In (Fa ++ Fb) x → Mut base w8 x := fun x hx => (List.mem_append.1 hx).elim (fun h => (H5.out.2.1.new_ K8.out).mut x h) (fun h => (H5.out.2.2.1.new_ K8.out).mut x h)
      have mm9 := (H5.out.1.new_ K8.out).keep k9 hmut (fun x hx h => by
        simp at hx
        subst hx
        exact (List.mem_append.1 h).elim H5.out.2.2.2.2.1 H5.out.2.2.2.2.2.1)
      have p9 := (HP5.out.new_ K8.out).keep k9 hmut
      have k19 := (K5.out.trans K8.out (fun _ x => x.elim)).trans k9 (fun x hx => .inr ((List.mem_append.1 hx).elim (fun h => H5.out.2.2.2.2.2.2.1 x h) (fun h => H5.out.2.2.2.2.2.2.2 x h)))
      have ha1 : w1.heap.size ≤ a := H5.out.2.2.2.2.2.2.1 a H5.out.2.1.self
      have ham : w1.heap.size ≠ a := fun e => H5.out.2.2.2.2.1 (e ▸ H5.out.2.1.self)
      have H9' := Lib.hid (show _ ∧ _ ∧ _ ∧ _ ∧ _ ∧ _ ∧ _ from ⟨m9, ma9, mb9, hca, mm9, p9, k19⟩)
      have hb9 : base ≤ w9.heap.size := Nat.le_trans hb1 k19.size
      have W1 := Lib.hid (whole_any (d := c1) m9 p9 hc1 hb9 (by omega))
      have W2 := Lib.hid (fun W (k : Keep No w9 W) => whole_any (d := 0) (ma9.new_ k) (pairs_nil) (Nat.le_refl _) (Nat.le_trans hb9 k.size) (by simp))
      have W3 := Lib.hid (fun W (k : Keep No w9 W) => whole_any (d := 0) (mb9.new_ k) (pairs_nil) (Nat.le_refl _) (Nat.le_trans hb9 k.size) (by simp))
      clear hj m9 ma9 mb9 hca hcb hH mm9 p9 k9 k19 HJ H5 HP5 hmut HFS
      go_wp2_with fail
      refine W1.out.mono ?_
      rintro e wA ⟨rfl, kA⟩
      have KA := Lib.hid kA
      clear kA W1
      go_wp2_with fail
      refine (W2.out _ KA.out).mono ?_
      rintro e wB ⟨rfl, kB⟩
      have KB := Lib.hid (KA.out.trans kB (fun _ x => x.elim))
      clear kB W2
      go_wp2_with fail
      refine (W3.out _ KB.out).mono ?_
      rintro e wC ⟨rfl, kC⟩
      have KC := Lib.hid (KB.out.trans kC (fun _ x => x.elim))
      clear kC W3
      have hP := lput_any (back := true) (d := c1) (H9'.out.2.1.new_ KC.out) (H9'.out.2.2.2.2.2.1.new_ KC.out) H1.out.2.1 (by simp; omega) (Nat.le_trans hb9 KC.out.size)
      rw [if_pos rfl, putAll_rev HR.out.2.2] at hP
      have HP := Lib.hid hP
      clear hP
      go_wp2_with fail
      refine HP.out.mono ?_
      rintro e wD ⟨rfl, FD, mD, kD, hFD⟩
      have hmutD : ∀ x, In [a] x → Mut base wC x := (H9'.out.2.1.new_ KC.out).mut
      have cD := (H9'.out.1.new_ KC.out).keep kD hmutD (fun x hx h => by simp [In] at h; subst h; exact H9'.out.2.2.2.1 hx)
      have mmD := (H9'.out.2.2.2.2.1.new_ KC.out).keep kD hmutD (fun x hx h => by simp [In] at h hx; omega)
      have pD := (H9'.out.2.2.2.2.2.1.new_ KC.out).keep kD hmutD
      have k1D := (H9'.out.2.2.2.2.2.2.trans KC.out (fun _ x => x.elim)).trans kD (fun x hx => .inr (by simp [In] at hx; omega))
      have HDD := Lib.hid (show _ ∧ _ ∧ _ ∧ _ ∧ _ from ⟨mD, cD, mmD, pD, k1D⟩)
      have hbD : base ≤ wD.heap.size := Nat.le_trans hb1 k1D.size
      have W4 := Lib.hid (whole_any (d := c1) mD pD hc1 hbD (by omega))
      clear mD kD hFD hmutD cD mmD pD k1D HP H9'
      go_wp2_with fail
      refine W4.out.mono ?_
      rintro e wE ⟨rfl, kE⟩
      have KE := Lib.hid kE
      have HKN := Lib.hid (kin_any (HDD.out.1.new_ kE) (HDD.out.2.1.new_ kE))
      clear kE W4
      go_wp2_with fail
      refine HKN.out.mono ?_
      rintro e wF ⟨rfl, qF, rfl⟩
      have KF := Lib.hid (KE.out.drewN qF)
      have hP := lput_any (back := false) (d := c1) (HDD.out.2.2.1.new_ KF.out) (HDD.out.2.2.2.1.new_ KF.out) H1.out.2.1 (by simp; omega) (Nat.le_trans hbD KF.out.size)
      rw [if_neg (by decide), putAll_self HR.out.2.2] at hP
      have HP := Lib.hid hP
      clear hP HKN
      go_wp2_with fail
      refine HP.out.mono ?_
      rintro e wG ⟨rfl, FG, mG, kG, hFG⟩
      have hmutG : ∀ x, In [w1.heap.size] x → Mut base (wE.drewN qF) x := (HDD.out.2.2.1.new_ KF.out).mut
      have pG := (HDD.out.2.2.2.1.new_ KF.out).keep kG hmutG
      have k1G := (HDD.out.2.2.2.2.trans KF.out (fun _ x => x.elim)).trans kG (fun x hx => .inr (by simp [In] at hx; omega))
      have KG := Lib.hid k1G
      have W5 := Lib.hid (whole_any (d := c1) mG pG hc1 (Nat.le_trans hb1 k1G.size) (by omega))
      clear mG kG hFG hmutG pG k1G HP
      go_wp2_with fail
      refine W5.out.mono ?_
      rintro e wH ⟨rfl, kH⟩
      have KH := Lib.hid (H1.out.1.trans (KG.out.trans kH (fun _ x => x.elim)) (fun _ x => x.elim))
      clear kH W5
      go_wp2
      go_ret
      exact ⟨rfl, KH.out⟩
end Go.Proofs.Ytdmckjojeddaaaa
