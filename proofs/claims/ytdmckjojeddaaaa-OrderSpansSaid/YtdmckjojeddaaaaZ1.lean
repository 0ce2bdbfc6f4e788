/- OrderSpans: the walk. Conditions: none but that the arguments are read. -/
import Derived.Test.YtdmckjojeddaaaaW2
import Derived.Test.YtdmckjojeddaaaaZ0
namespace Go.Proofs.Ytdmckjojeddaaaa
open Go.RowKit Go.Proofs.YtdmckjojeddaaaaKit Go.Proofs.YtdmckjojeddaaaaPlain

set_option maxHeartbeats 4000000 in
set_option maxRecDepth 100000 in
theorem orderSpans_walk {base : Nat} (seed : Int) (Lp : Option Addr) (m d : Nat) (l : PairL) (A : Option Addr) (n c : Nat) (low : List UInt8) (B : Option Addr) (n2 c2 : Nat) (high : List UInt8) (bd : Bool) (w : World)
    (hl : Pairs base w Lp m l) (hk : Bytes base w A n low) (hk2 : Bytes base w B n2 high) (hb : base ≤ w.heap.size) :
    Calls Try.prog 8 #[.agg #[.int .u64 seed, .slice Lp m d, .slice A n c, .slice B n2 c2, .bool bd]] w fun e w' => e = .returned (.bool true) ∧ Keep No w w' := by
  have HB := Lib.hid (Blk.new w 69 #[.int .u64 seed, .slice Lp m d, .slice A n c, .slice B n2 c2, .bool bd])
  have f0 := HB.out.cell 0
  have f1 := HB.out.cell 1
  have f2 := HB.out.cell 2
  have f3 := HB.out.cell 3
  have f4 := HB.out.cell 4
  simp only [List.getElem?_toArray, List.getElem?_cons_zero, List.getElem?_cons_succ] at f0 f1 f2 f3 f4
  have HW := Lib.hid ((Keep.refl No w).alloc (.cells #[.int .u64 seed, .slice Lp m d, .slice A n c, .slice B n2 c2, .bool bd] 69))
  have HL := Lib.hid hl
  have HK := Lib.hid hk
  have HK2 := Lib.hid hk2
  clear hl hk hk2
  go_enter Try.func8, Try.ntmps8
  go_wp2_with fail
  go_quiet (fail)
  obtain ⟨w0, hW0⟩ : ∃ x, x = World.drewN (w.alloc (.cells #[.int .u64 seed, .slice Lp m d, .slice A n c, .slice B n2 c2, .bool bd] 69)) nq := ⟨_, rfl⟩
  rw [← hW0]
  have K0 := Lib.hid (show Keep No w w0 from hW0 ▸ HW.out.drewN nq)
  have hb0 : base ≤ w0.heap.size := Nat.le_trans hb K0.out.size
  have L0 := Lib.hid (HL.out.new_ K0.out)
  have Y0 := Lib.hid (show _ ∧ _ from ⟨HK.out.new_ K0.out, HK2.out.new_ K0.out⟩)
  clear HW HK HK2 HL hW0 HB f0 f1 f2 f3 f4
  have H0 := Lib.hid (rising_any Lp m d l w0 L0.out hb0)
  cases hr : risingL l with
  | none =>
    rw [hr] at H0
    clear hr
    go_wp2_with fail
    refine H0.out.mono ?_
    rintro e w1 ⟨rfl, hk⟩
    have HK := Lib.hid (K0.out.trans hk (fun _ x => x.elim))
    clear hk
    go_wp2
    go_ret
    exact ⟨rfl, HK.out⟩
  | some out =>
    rw [hr] at H0
    obtain ⟨hl4, hout, hok⟩ := risingL_some hr
    have HR := Lib.hid (show _ ∧ _ ∧ _ from ⟨hout, hok, risingL_sorted hr⟩)
    clear hr hout hok
    go_wp2_with fail
    refine H0.out.mono ?_
    rintro e w1 ⟨A1, c1, rfl, hc1, ho1, hok1, hl1⟩
    have H1 := Lib.hid (show _ ∧ _ ∧ _ from ⟨ho1.keepTo, hok1, OwnP.pairs ho1⟩)
    clear ho1 hok1 H0
    have K1 := Lib.hid (K0.out.trans H1.out.1 (fun _ x => x.elim))
    have HLG := Lib.hid (long_any A n c w1)
    have HLG2 := Lib.hid (long_any B n2 c2 w1)
    by_cases hlong : 2000 < n
    · rw [decide_eq_true hlong] at HLG
      go_wp2_with (go_at_call 15; refine HLG.out.mono ?_; rintro e w' ⟨rfl, rfl⟩)
      go_ret
      exact ⟨rfl, K1.out⟩
    rw [decide_eq_false hlong] at HLG
    by_cases hlong2 : 2000 < n2
    · rw [decide_eq_true hlong2] at HLG2
      go_wp2_with (first
        | (go_at_call_of 15 (Value.slice A n c); refine HLG.out.mono ?_; rintro e w' ⟨rfl, rfl⟩; clear HLG)
        | (go_at_call 15; refine HLG2.out.mono ?_; rintro e w' ⟨rfl, rfl⟩))
      go_ret
      exact ⟨rfl, K1.out⟩
    rw [decide_eq_false hlong2] at HLG2
    go_wp2_with (first
      | (go_at_call_of 15 (Value.slice A n c); refine HLG.out.mono ?_; rintro e w' ⟨rfl, rfl⟩; clear HLG)
      | (go_at_call 15; refine HLG2.out.mono ?_; rintro e w' ⟨rfl, rfl⟩; clear HLG2)
      | (go_at_call 20; refine (new_any seed _).mono ?_; rintro e w' ⟨rfl, rfl⟩))
    have hb1 : base ≤ w1.heap.size := Nat.le_trans hb K1.out.size
    have T0 := Lib.hid (Two.made (base := base) (w0 := w1) (seed := seed) hb1 (Keep.refl No w1))
    obtain ⟨w3, hw3⟩ : ∃ x, x = ((w1.alloc (.cells #[.bool true, .int .u64 seed, .pointer none] 106)).alloc (.cells #[.bool true, .int .u64 seed, .pointer none] 106)) := ⟨_, rfl⟩
    rw [← hw3] at T0 ⊢
    clear hw3
    have hY := Lib.hid (fun W (h : Keep No w1 W) => (show _ ∧ _ from ⟨Y0.out.1.new_ (H1.out.1.trans h (fun _ x => x.elim)), Y0.out.2.new_ (H1.out.1.trans h (fun _ x => x.elim))⟩))
    have hP := lput_any (back := false) (d := d) T0.out.ma (L0.out.new_ (H1.out.1.trans T0.out.keep (fun _ x => x.elim))) HR.out.2.1 (by simp; omega) (Nat.le_trans hb1 T0.out.keep.size)
    rw [if_neg (by decide), ← HR.out.1] at hP
    refine hP.mono ?_
    rintro e w4 ⟨rfl, hc4⟩
    obtain ⟨F4, t4, _⟩ := T0.out.chA hc4
    have T4 := Lib.hid t4
    clear hc4 t4 hP T0
    obtain ⟨sp, hsp⟩ : ∃ sp, sp = spanPairs low (hiOf bd high) out := ⟨_, rfl⟩
    have hsub : sp.length ≤ out.length := by rw [hsp]; exact List.length_filter_le _ _
    have hso : Sorted sp := by rw [hsp]; exact List.Pairwise.sublist List.filter_sublist HR.out.2.2
    have hoks : Okay sp := fun p hp => H1.out.2.1 p (by rw [hsp] at hp; exact (List.mem_filter.1 hp).1)
    have hS := span_any (c := c) (c' := c2) (bd := bd) T4.out.ma (Nat.le_trans hb1 T4.out.keep.size) (by omega) (hY.out _ T4.out.keep).1 (hY.out _ T4.out.keep).2
    rw [span_pairs HR.out.2.2, ← hsp] at hS
    have HS := Lib.hid hS
    have HSD := Lib.hid (fun W (G : List Nat) (h : Two base w1 W w1.heap.size (w1.heap.size + 1) seed out sp F4 G) => spanDigest_any (c := c) (d := c2) (bd := bd) h.ma (hY.out _ h.keep).1 (hY.out _ h.keep).2 (by omega))
    have HRS := Lib.hid (fun W (h : Keep No w1 W) => rspan_any A1 A B out.length c1 n c n2 c2 out low high bd W (H1.out.2.2.new_ h) hc1 (hY.out _ h).1 (hY.out _ h).2 H1.out.2.1.small (by omega) (by omega) (by omega))
    have e5 : (if bd then some high else none) = hiOf bd high := rfl
    rw [e5, ← hsp] at HSD
    rw [rspan_pairs HR.out.2.2, ← hsp] at HRS
    have HSP := Lib.hid (show _ ∧ _ from ⟨hso, hoks⟩)
    clear hS hsp hso hoks e5
    generalize w1.heap.size + 1 = bb at *
    generalize haa : w1.heap.size = aa at *
    go_wp2_with fail
    refine HS.out.mono ?_
    rintro e w5 ⟨A5, c5, rfl, hc5, o5, k5⟩
    have T5 := Lib.hid (T4.out.new_ k5)
    have hP := lput_any (back := false) (d := c5) T5.out.mb (o5.pairs (base := base)) HSP.out.2 (by simp; omega) (Nat.le_trans (haa ▸ hb1) (haa ▸ T5.out.keep.size))
    rw [if_neg (by decide), putAll_self HSP.out.1] at hP
    have HP := Lib.hid hP
    clear hP o5 k5 HS T4
    go_wp2_with fail
    refine HP.out.mono ?_
    rintro e w6 ⟨rfl, hc6⟩
    obtain ⟨G6, t6, _⟩ := T5.out.chB hc6
    have T6 := Lib.hid t6
    have HD6 := Lib.hid (HSD.out _ _ t6)
    clear hc6 t6 HP T5 HSD
    go_wp2_with fail
    refine HD6.out.mono ?_
    rintro e w7 ⟨rfl, k7⟩
    have T7 := Lib.hid (T6.out.new_ k7)
    have HLN := Lib.hid (len_any T7.out.mb)
    have HDG := Lib.hid (mdigest_any T7.out.mb)
    have HR7 := Lib.hid (HRS.out _ T7.out.keep)
    clear k7 T6 HD6 HRS
    go_wp2_with (first
      | (go_at_call 27; refine HLN.out.mono ?_; rintro e w' ⟨rfl, rfl⟩)
      | (go_at_call 26; refine HDG.out.mono ?_; rintro e w' ⟨rfl, rfl⟩))
    refine HR7.out.mono ?_
    rintro e w8 ⟨A8, c8, rfl, hc8, p8, q8, rfl⟩
    have T8 := Lib.hid (T7.out.new_ ((Keep.refl No w7).drewN q8))
    have HWA := Lib.hid (whole_any T8.out.ma (H1.out.2.2.new_ T8.out.keep) hc1 (Nat.le_trans (haa ▸ hb1) (haa ▸ T8.out.keep.size)) (by omega))
    clear p8 T7 HR7 HLN HDG
    go_wp2_with fail
    refine HWA.out.mono ?_
    rintro e w9 ⟨rfl, k9⟩
    have K9 := Lib.hid (K1.out.trans (T8.out.keep.trans k9 (fun _ x => x.elim)) (fun _ x => x.elim))
    clear k9 HWA
    go_wp2
    go_ret
    exact ⟨rfl, K9.out⟩
end Go.Proofs.Ytdmckjojeddaaaa
