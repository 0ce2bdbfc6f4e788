/- LearnVotes' walk. Conditions: each names its own. -/
import Derived.Test.YtgabidgpngiecaaLV5
import Derived.Deep.RegionHeld3
namespace Go.Proofs.Ytgabidgpngiecaa
open Go.RowKit Go.Proofs.YtgabidgpngiecaaKit Go.Proofs.YtgabidgpngiecaaPlain Go.Sort

theorem rown_label {B : Nat} {w : World} {A : Option Addr} {c : Nat} {l : List Row} (h : ROwn B w (.slice A l.length c) l) (hn : 0 < l.length) : ∃ g', A = some ⟨g', 0, none⟩ ∧ w.cell? ⟨g', 3, none⟩ = some (.int .i64 l[0].l) := by
  obtain ⟨h1, ⟨_, h3⟩ | ⟨g', cap, cur, h2, _, hg, _⟩⟩ := id h
  · omega
  · injection h2 with h2 _ _
    subst h2
    refine ⟨g', rfl, ?_⟩
    have := World.ownsRow.cells h (g := g') rfl _ _ (rcells_get l 0 hn 3 (.int .i64 l[0].l) rfl)
    rwa [Addr.add_lit, Nat.zero_add, Nat.zero_mul, Nat.zero_add] at this

set_option maxHeartbeats 1000000 in
set_option maxRecDepth 100000 in
theorem learnVotes_walk {base : Nat} {w : World} {A : Option Addr} {c : Nat} {l : List Row} (x : Row) (k : Nat) (h : RowsIn base w A l) (hmax : l.length ≤ maxLen) (hk : k < 65536) :
    Calls Try.prog 5 #[.slice A l.length c, ptV x, .int .u16 (k : Nat)] w fun e w' => e = .returned (.bool true) ∧ Keep No w w' := by
  have HB := Lib.hid (built_of (c := c) 200 (by omega) (Reads.new_ h ((Keep.refl No w).alloc (.cells #[.int .i64 x.a, .int .i64 x.b, .int .i64 x.c] 31))) hmax)
  have HAl := Lib.hid (fun W => alive_any W)
  have t1 : ((k : Nat) : Int).tmod 250 = ((k % 250 : Nat) : Int) := by rw [Int.tmod_eq_emod_of_nonneg (by omega)]; rfl
  have x1 : IntKind.i64.wrap ((k : Nat) : Int) = (k : Nat) := fit64 (by omega) (by omega)
  have hm : k % 250 < 250 := Nat.mod_lt _ (by omega)
  generalize k % 250 = m at *
  have x2 : IntKind.i64.wrap (m : Int) = m := fit64 (by omega) (by omega)
  clear h hmax
  unfold ptV
  go_enter Try.func5, Try.ntmps5
  go_wp2_with fail
  refine HB.out.mono ?_
  rintro e w1 ⟨v, R, rfl, hbi, hR⟩
  have HR := Lib.hid (show R.length ≤ 200 ∧ ∀ r ∈ R, okRow r from by rw [hR]; exact ⟨takeOk_length _ _, takeOk_ok⟩)
  have H1 := Lib.hid (BI.vw hbi)
  obtain ⟨Av, cv, rfl, -⟩ := hbi.ro.shape
  clear hbi hR HB
  go_wp2_with fail
  obtain ⟨n, en⟩ : ∃ n : Nat, 1 + (m : Int) = (n : Int) := ⟨1 + m, by simp⟩
  have HN := Lib.hid (show 1 ≤ n ∧ n ≤ 250 from by omega)
  rw [en]
  clear en hm x1 x2 t1 hk
  go_loopg [31] 3 (fun kx s31 wr => ∃ j : Nat, s31 = .int .i64 j ∧ j ≤ 3 ∧ 3 ≤ j + kx ∧ Hid (VW w wr (.slice Av R.length cv) R (mods j x)))
  case atStart => exact ⟨0, rfl, Nat.zero_le _, Nat.le_refl _, H1⟩
  case round =>
    clear H1
    obtain ⟨j, rfl, hj, hkx, HI⟩ := hrel
    by_cases h3 : j < 3
    · have hcase : j = 0 ∨ j = 1 ∨ j = 2 := by omega
      have f0 := HI.out.cells.1
      have f1 := HI.out.cells.2.1
      have f2 := HI.out.cells.2.2
      rcases hcase with rfl | rfl | rfl
      · simp only [mods, show ¬ (0 : Nat) < 0 from by omega, show ¬ (1 : Nat) < 0 from by omega, show ¬ (2 : Nat) < 0 from by omega, if_false] at f0 f1 f2
        have g0 := HI.out.bx.frozen 0
        have HS := Lib.hid HI.out.step0
        clear HI
        go_wp2_with fail
        go_roundg 2
        case measure => omega
        case rel => exact ⟨1, rfl, by omega, by omega, HS⟩
      · simp only [mods, show (0 : Nat) < 1 from by omega, show ¬ (1 : Nat) < 1 from by omega, show ¬ (2 : Nat) < 1 from by omega, if_false, if_true] at f0 f1 f2
        have g0 := HI.out.bx.frozen 1
        have HS := Lib.hid HI.out.step1
        clear HI
        go_wp2_with fail
        go_roundg 1
        case measure => omega
        case rel => exact ⟨2, rfl, by omega, by omega, HS⟩
      · simp only [mods, show (0 : Nat) < 2 from by omega, show (1 : Nat) < 2 from by omega, show ¬ (2 : Nat) < 2 from by omega, if_false, if_true] at f0 f1 f2
        have g0 := HI.out.bx.frozen 2
        have HS := Lib.hid HI.out.step2
        clear HI
        go_wp2_with fail
        go_roundg 0
        case measure => omega
        case rel => exact ⟨3, rfl, by omega, by omega, HS⟩
    · obtain rfl : j = 3 := by omega
      have HX := Lib.hid (mods_ok x)
      generalize mods 3 x = y at *
      have f0 := HI.out.cells.1
      have f1 := HI.out.cells.2.1
      have f2 := HI.out.cells.2.2
      by_cases hR : 0 < R.length
      · have HV := Lib.hid (vote_any y (n : Int) HI.out.md (by have := HN.out; omega) HX.out (by have := HN.out; omega) hR)
        unfold ptV at HV
        go_wp2_with fail
        refine HV.out.mono ?_
        rintro e w2 ⟨L, hc, hp, rfl, hk2⟩
        have H2 := Lib.hid (HI.out.new_ hk2)
        have HC := Lib.hid (show Canon L ∧ (expand L).Perm R from ⟨hc, hp⟩)
        have hz : ((R.length : Int) == 0) = false := by rw [beq_eq_false_iff_ne]; omega
        have HR0 := Lib.hid hR
        clear hc hp hk2 f0 f1 f2 HI HV hR
        go_wp2_with fail
        generalize hva : voteF y L n = va at *
        have HVA := Lib.hid hva
        clear hva
        have HSO := Lib.hid (fun W (hW : Keep No w2 W) => rsorted_any (base := 0) (show RIn 0 W (.slice Av R.length cv) R from (H2.out.new_ hW).ro.rin) (Nat.zero_le _) (by have := HR.out.1; omega))
        have HSP := Lib.hid (sortL_perm HR.out.2 (by have := HR.out.1; omega))
        have hkw : Keep No w2 w2.drew := (Keep.refl No w2).drew
        have f0 := H2.out.cells.1
        have f1 := H2.out.cells.2.1
        have f2 := H2.out.cells.2.2
        go_region_held3 (fun W => W.cell? ⟨w.heap.size, 0, none⟩ = some (.int .i64 y.a) ∧ W.cell? ⟨w.heap.size, 1, none⟩ = some (.int .i64 y.b) ∧ W.cell? ⟨w.heap.size, 2, none⟩ = some (.int .i64 y.c))
          (first
            | with_reducible exact (H2.out.new_ hkw).cells
            | with_reducible exact (H2.out.new_ H4.out.2).cells
            | with_reducible exact (H2.out.new_ H5.out.2.2.1).cells
            | fail)
          (first
            | (go_at_call 22; refine (HSO.out _ hkw).mono ?_; rintro e w4 ⟨v4, rfl, hr4, hk4⟩; have H4 := Lib.hid (show RIn 0 w4 v4 (sortL R) ∧ Keep No w2 w4 from ⟨hr4, hkw.trans hk4 (fun _ x => x.elim)⟩); clear hr4 hk4)
            | (go_at_call 21; refine (rnear_any y H4.out.1 (Nat.zero_le _) (by rw [HSP.out.length_eq]; have := HR.out.1; omega) (fun r hr => HR.out.2 r (HSP.out.mem_iff.1 hr)) HX.out).mono ?_; rintro e w5 ⟨v5, N, rfl, hpm, hpw, hown, hk5⟩; have H5 := Lib.hid (show NearL y R N ∧ ROwn w4.heap.size w5 v5 N ∧ Keep No w2 w5 ∧ w2.heap.size ≤ w4.heap.size from ⟨⟨hpm.trans HSP.out, hpw⟩, hown, H4.out.2.trans hk5 (fun _ x => x.elim), H4.out.2.size⟩); clear hpm hpw hown hk5)
            | fail)
        clear f0 f1 f2 hkw HSO HSP H4
        obtain ⟨A5, c5, rfl, hr5⟩ := H5.out.2.1.shape
        have HR5 := Lib.hid hr5
        clear hr5
        have HNL := Lib.hid H5.out.1.1.length_eq
        have HB5 := Lib.hid (built_of (c := c5) n (by have := HN.out; omega) (HR5.out 0) (by rw [HNL.out]; have := HR.out.1; simp only [maxLen]; omega))
        have HT5 := Lib.hid (takeOk_all (n := n) (l := N) (fun r hr => HR.out.2 r (H5.out.1.1.mem_iff.1 hr)))
        rw [HT5.out] at HB5
        have hlen : 0 < N.length := by rw [HNL.out]; exact HR0.out
        obtain ⟨s, hs⟩ : ∃ s, s = (N.take n).length := ⟨_, rfl⟩
        have HS := Lib.hid (show 0 < s ∧ ((s : Int) == min (n : Int) (R.length : Int)) = true from by
          rw [hs, List.length_take, ← HNL.out]
          have := HN.out
          refine ⟨by omega, ?_⟩
          rw [beq_iff_eq]
          omega)
        have HSE := Lib.hid hs
        clear hs
        go_wp2_with fail
        refine HB5.out.mono ?_
        rintro e w6 ⟨v6, R6, rfl, hb6, rfl⟩
        have hsh6 : ∃ A6 c6, v6 = .slice A6 s c6 := by
          obtain ⟨A6, c6, e6, -⟩ := hb6.ro.shape
          exact ⟨A6, c6, by rw [e6, HSE.out]⟩
        obtain ⟨A6, c6, rfl⟩ := hsh6
        have H6 := Lib.hid (H2.out.new_ (H5.out.2.2.1.trans hb6.kp (fun _ x => x.elim)))
        have HO6 := Lib.hid (H5.out.2.1.keep hb6.kp (fun _ _ x => x))
        have HV2 := Lib.hid ((vote_any y (n : Int) hb6.md (by have := HN.out; omega) HX.out (by have := HN.out; omega) (by rw [← HSE.out]; exact HS.out.1)).mono (fun e w' ⟨L2, hc2, hp2, he, hk⟩ => (⟨by rw [he, show ((n : Int)).toNat = n from rfl, ← vote_few HC.out.1 HC.out.2 H5.out.1 n hc2 hp2, HVA.out], hk⟩ : e = Ending.returned (.tuple #[.int .i64 va, .int .i64 0]) ∧ Keep No w6 w')))
        obtain ⟨lab, hlab⟩ : ∃ lab, lab = (N[0]'hlen).l := ⟨_, rfl⟩
        have HV3 := Lib.hid (fun W (hW : Keep No w6 W) => (vote_any y 1 (H6.out.new_ hW).md (by omega) HX.out (by omega) HR0.out).mono (fun e w' ⟨L2, hc2, hp2, he, hk⟩ => (⟨by rw [he, show (1 : Int).toNat = 1 from rfl, vote_one hc2 hp2 H5.out.1 hlen, hlab], hk⟩ : e = Ending.returned (.tuple #[.int .i64 lab, .int .i64 0]) ∧ Keep No W w')))
        have HLA := Lib.hid hlab
        clear hlab hb6
        unfold ptV at HV2 HV3
        have f0 := H6.out.cells.1
        have f1 := H6.out.cells.2.1
        have f2 := H6.out.cells.2.2
        go_wp2_with fail
        refine HV2.out.mono ?_
        rintro e w7 ⟨rfl, hk7⟩
        have K7 := Lib.hid hk7
        clear hk7 HV2 f0 f1 f2
        have f0 := (H6.out.new_ K7.out).cells.1
        have f1 := (H6.out.new_ K7.out).cells.2.1
        have f2 := (H6.out.new_ K7.out).cells.2.2
        go_wp2_with fail
        refine (HV3.out _ K7.out).mono ?_
        rintro e w8 ⟨rfl, hk8⟩
        have K8 := Lib.hid (K7.out.trans hk8 (fun _ x => x.elim))
        have HO8 := Lib.hid (HO6.out.keep K8.out (fun _ _ x => x))
        have K80 := Lib.hid (H6.out.kp.trans K8.out (fun _ x => x.elim))
        clear hk8 HV3 f0 f1 f2
        obtain ⟨g5, rfl, f3⟩ := rown_label HO8.out hlen
        rw [← HLA.out] at f3
        have hsm := HS.out.2
        have hnl : (0 : Int) < (N.length : Int) := by omega
        go_wp2_with (go_at_call 12; refine (HAl.out _).mono ?_; rintro e w9 ⟨rfl, hk9⟩; have K9 := Lib.hid (K80.out.trans hk9 (fun _ x => x.elim)); clear hk9)
        go_ret
        exact ⟨rfl, K9.out⟩
      · obtain rfl : R = [] := List.eq_nil_of_length_eq_zero (by omega)
        have HV := Lib.hid (vote_none y (n : Int) HI.out.md HX.out (by have := HN.out; omega))
        unfold ptV at HV
        go_wp2_with fail
        refine HV.out.mono ?_
        rintro e w2 ⟨rfl, hk2⟩
        have K2 := Lib.hid (HI.out.kp.trans hk2 (fun _ x => x.elim))
        clear hk2 f0 f1 f2 HI HV
        go_wp2_with (go_at_call 12; refine (HAl.out _).mono ?_; rintro e w3 ⟨rfl, hk3⟩; have K3 := Lib.hid (K2.out.trans hk3 (fun _ x => x.elim)); clear hk3)
        go_ret
        exact ⟨rfl, K3.out⟩
end Go.Proofs.Ytgabidgpngiecaa
