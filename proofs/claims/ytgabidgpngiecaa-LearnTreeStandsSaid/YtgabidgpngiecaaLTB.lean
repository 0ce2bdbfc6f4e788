/- LearnTreeStands' walk. Conditions: it names its own. -/
import Derived.Test.YtgabidgpngiecaaLTC
import Derived.Test.YtgabidgpngiecaaLB1
import Derived.StillTailTactics
namespace Go.Proofs.Ytgabidgpngiecaa
open Go.RowKit Go.Proofs.YtgabidgpngiecaaKit Go.Proofs.YtgabidgpngiecaaPlain

set_option maxHeartbeats 40000000 in
set_option maxRecDepth 100000 in
theorem learnTreeStands_walk {base : Nat} {w : World} {A : Option Addr} {c : Nat} {l : List Row} (levels least : Nat) (h : RowsIn base w A l) (hmax : l.length ≤ maxLen) (hb : levels < 256) (ho : least < 256) :
    Calls Try.prog 6 #[.slice A l.length c, .int .u8 (levels : Nat), .int .u8 (least : Nat)] w fun e w' => e = .returned (.bool true) ∧ Keep No w w' := by
  have HB := Lib.hid (built_of (c := c) 300 (by omega) h hmax)
  have t1 : ((levels : Nat) : Int).tmod 7 = ((levels % 7 : Nat) : Int) := by rw [Int.tmod_eq_emod_of_nonneg (by omega)]; rfl
  have t2 : ((least : Nat) : Int).tmod 20 = ((least % 20 : Nat) : Int) := by rw [Int.tmod_eq_emod_of_nonneg (by omega)]; rfl
  have x1 : IntKind.i64.wrap ((levels : Nat) : Int) = (levels : Nat) := fit64 (by omega) (by omega)
  have x2 : IntKind.i64.wrap ((least : Nat) : Int) = (least : Nat) := fit64 (by omega) (by omega)
  have hi : levels % 7 ≤ 6 := Nat.le_of_lt_succ (Nat.mod_lt _ (by omega))
  have hj : least % 20 < 20 := Nat.mod_lt _ (by omega)
  generalize levels % 7 = deep at *
  generalize least % 20 = lea at *
  have x3 : IntKind.i64.wrap (deep : Int) = deep := fit64 (by omega) (by omega)
  have x4 : IntKind.i64.wrap (lea : Int) = lea := fit64 (by omega) (by omega)
  have x5 : IntKind.i64.wrap (1 + (lea : Int)) = 1 + (lea : Int) := fit64 (by omega) (by omega)
  have HD := Lib.hid (show _ ∧ _ from ⟨hi, hj⟩)
  clear h hmax
  go_enter Try.func6, Try.ntmps6
  go_wp2_with fail
  refine HB.out.mono ?_
  rintro e w1 ⟨v, R, rfl, hbi, hR⟩
  obtain ⟨Av, cv, rfl, -⟩ := hbi.ro.shape
  have HI := Lib.hid hbi
  have hR3 : R.length ≤ 300 := by rw [hR]; exact takeOk_length _ _
  have HR3 := Lib.hid hR3
  have HOK := Lib.hid hbi.md.okay
  have HT := Lib.hid (tree_any hbi.md deep hi (1 + (lea : Int)) (by omega) (by omega))
  clear hbi hR HB hR3
  go_wp2_with fail
  clear t1 t2 x1 x2 x3 x4 x5
  refine HT.out.mono ?_
  rintro e w2 ht
  rcases ht with ⟨h0, rfl, hk2⟩ | ⟨h0, L, ov, hp, hca, hok, rfl, hou, hk2⟩
  · have hd : ((R.length : Int) == 0) = true := by rw [h0]; rfl
    have K2 := Lib.hid (HI.out.kp.trans hk2 (fun _ x => x.elim))
    have HAl := Lib.hid (fun W => alive_any W)
    clear HT HI hk2 h0
    go_wp2_with fail
    refine (HAl.out _).mono ?_
    rintro e w3 ⟨rfl, hk3⟩
    have K3 := Lib.hid (K2.out.trans hk3 (fun _ x => x.elim))
    clear hk3
    go_wp2_with fail
    go_ret
    exact ⟨rfl, K3.out⟩
  obtain ⟨T, hT⟩ : ∃ T, T = treeL (1 + (lea : Int)) deep L 0 := ⟨_, rfl⟩
  rw [← hT] at hou
  have hTp : 0 < T.length := hT ▸ treeL_pos ..
  have hTl : T.length + 1 ≤ 2 ^ (deep + 1) := hT ▸ treeL_len ..
  have hTl : T.length ≤ 200 := by
    have h2 : 2 ^ (deep + 1) ≤ 2 ^ 7 := Nat.pow_le_pow_right (by omega) (by omega)
    omega
  have HOKT := Lib.hid (tree_ok (deep := deep) (by have := HR3.out; omega) hp.symm hok h0 hT)
  obtain ⟨tg, tc, rfl, htc, -, -⟩ := own_cells hou hTp
  have HBI := Lib.hid (HI.out.new_ hk2)
  have HOU := Lib.hid (own_weak hou (b' := w.heap.size) HI.out.kp.size)
  have hd : ((R.length : Int) == 0) = false := by
    rw [beq_eq_false_iff_ne]
    intro e
    exact h0 (List.length_eq_zero_iff.1 (by omega))
  have HR0 := Lib.hid h0
  have HTL := Lib.hid (show _ ∧ _ ∧ _ from ⟨hTp, hTl, htc⟩)
  have HTW := Lib.hid (TW.start2 HOU.out rfl (by omega) HBI.out.ro HBI.out.kp)
  obtain ⟨n, hn⟩ : ∃ n, n = T.length := ⟨_, rfl⟩
  have HN := Lib.hid hn
  rw [← hn] at HTW HTL hTp hTl HOKT ⊢
  have hd2 : ((n : Int) == 0) = false := by
    rw [beq_eq_false_iff_ne]
    omega
  have n0 : (0 : Int) < (n : Int) := by omega
  have hm1 := run_ints n (by omega)
  have hm2 := run_lrows n (by omega)
  have hz : (w2.alloc (.cells (madeCells #[.int .i64 0] n) 3)).heap.size = w2.heap.size + 1 := by simp
  have hrow := (Blk.new (w2.alloc (.cells (madeCells #[.int .i64 0] n) 3)) 22 (madeCells #[.slice none 0 0] n))
  rw [hz] at hrow
  have c0 := hrow.cell 0
  rw [← Array.getElem?_toList, toList_madeCells_one, List.getElem?_replicate, if_pos (by omega)] at c0
  have r0 := hrow.frozen 0
  clear HT HI hp hca hok hou hk2 h0 hT htc hn hrow hz
  go_wp2_with fail
  clear hm1 hm2 c0 r0 hd hd2 HBI HOU
  generalize (w2.alloc (.cells (madeCells #[.int .i64 0] n) 3)).alloc (.cells ((madeCells #[.slice none 0 0] n).setIfInBounds 0 (.slice Av R.length cv)) 22) = w3 at *
  generalize w2.heap.size = ab at *
  obtain ⟨s0, hs0⟩ : ∃ s0 : TS, s0 = ⟨fun j => if j = 0 then R else [], fun _ => 0⟩ := ⟨_, rfl⟩
  rw [← hs0] at HOKT
  have HTW0 := Lib.hid (show ∃ vs, TW w.heap.size w w3 n tg tc ab (ab + 1) T vs (TS.run T s0 0).above (TS.run T s0 0).come from ⟨_, by rw [TS.run, hs0]; exact HTW.out⟩)
  clear HTW hs0
  go_loopg [76] n (fun kx s76 wr => ∃ i : Nat, s76 = .int .i64 i ∧ i ≤ n ∧ n ≤ i + kx ∧ Hid (∃ vs, TW w.heap.size w wr n tg tc ab (ab + 1) T vs (TS.run T s0 i).above (TS.run T s0 i).come))
  case atStart => exact ⟨0, rfl, Nat.zero_le _, by omega, HTW0⟩
  case round =>
    clear HTW0
    obtain ⟨i, rfl, hin, hkx, HS0⟩ := hrel
    by_cases hlt : i < n
    · obtain ⟨vs, hs⟩ := HS0.out
      clear HS0
      obtain ⟨b, hb⟩ : ∃ b, T[i]? = some b := ⟨_, List.getElem?_eq_getElem (by have := HN.out; omega)⟩
      have HRUN := Lib.hid (run_at (s := s0) hb)
      obtain ⟨hrows, hpos, hokr, h5, hkind⟩ := HOKT.out i b hb
      generalize TS.run T s0 i = s at *
      obtain ⟨bcol, bcut, blow, bhigh, blab, brows⟩ := b
      dsimp only at hrows hkind
      obtain ⟨C, hC⟩ : ∃ C, C = s.come i := ⟨_, rfl⟩
      have hro := hs.cm.each i hlt
      rw [← hC] at hro hrows hpos hokr h5
      obtain ⟨Ai, ci, hvi, hrin⟩ := hro.shape
      have hci := hs.cm.cell hlt
      rw [hvi] at hci
      have e0 := hs.br hb (j := 0) (by omega) rfl
      have e1 := hs.br hb (j := 1) (by omega) rfl
      have e2 := hs.br hb (j := 2) (by omega) rfl
      have e3 := hs.br hb (j := 3) (by omega) rfl
      have e4 := hs.br hb (j := 4) (by omega) rfl
      have e5 := hs.br hb (j := 5) (by omega) rfl
      rw [Nat.add_zero] at e0
      have HS := Lib.hid hs
      have HVI := Lib.hid hvi
      have HCE := Lib.hid hC
      have HPO := Lib.hid (show _ ∧ _ ∧ _ from ⟨hpos, hokr, h5⟩)
      have j0 : (0 : Int) ≤ (i : Int) := by omega
      have j1 : (i : Int) < (n : Int) := by omega
      have hi2 : i < 200 := by omega
      have h0C : (0 : Int) < (C.length : Int) := by omega
      have HCo := Lib.hid (fun W (hW : Keep No wr W) => rcounts_any (v := .slice Ai C.length ci) (hvi ▸ hro.keep hW (fun _ _ x => x)) hokr h5)
      obtain ⟨cn, hcn⟩ : ∃ cn, cn = cnt8 C := ⟨_, rfl⟩
      rw [← hcn] at HCo
      unfold labV at HCo
      have HCN := Lib.hid hcn
      clear hro hrin hs hvi hC hpos hokr h5 hb hcn
      rcases hkind with hleaf | hfork
      · as_aux_lemma =>
          obtain ⟨m, hbe, hm8, hmax, hmin, hpar⟩ := hleaf
          injection hbe with z0 z1 z2 z3 z4
          subst z0 z1 z2 z3 z4 hrows
          have HLF := Lib.hid (show _ ∧ _ ∧ _ ∧ _ from ⟨hm8, hmax, hmin, hpar⟩)
          clear hmax hmin hpar
          have KA := (Keep.refl No wr).alloc (.cells #[.int .i64 0, .int .i64 0, .int .i64 (-1), .int .i64 (-1), .int .i64 (m : Nat), .int .i64 (C.length : Nat)] 57)
          have hcj := (KA.cell (p := ⟨ab + 1, i, none⟩) (World.block_lt_of_cell? _ _ hci) (fun x => x)).trans hci
          have q1 : ((C.length : Int) == 0) = false := by
            rw [beq_eq_false_iff_ne]
            omega
          have HKA := Lib.hid KA
          clear KA
          go_wp2_with fail
          go_quiet (fail)
          clear q1 hci e0 e1 e2 e3 e4 e5
          go_wp2_with fail
          clear hcj
          refine (HCo.out _ (HKA.out.drewN _)).mono ?_
          rintro e w5 ⟨rfl, hk5⟩
          have HR0 := Lib.hid (RS.start (c := cn) HS.out (b := ⟨0, 0, -1, -1, (m : Nat), (C.length : Nat)⟩) hk5)
          have HPa := Lib.hid (fun W (hW : TW w.heap.size w W n tg tc ab (ab + 1) T vs s.above s.come) => parted_any (v := .slice Ai C.length ci) (by have h1 := hW.cm.each i hlt; rw [HVI.out, ← HCE.out] at h1; exact h1) HPO.out.2.1 HPO.out.1 HPO.out.2.2)
          clear hk5 HKA HCo HS
          have f4 : (w5.alloc (.cells #[.int .i64 (cn 0 : Nat), .int .i64 (cn 1 : Nat), .int .i64 (cn 2 : Nat), .int .i64 (cn 3 : Nat), .int .i64 (cn 4 : Nat), .int .i64 (cn 5 : Nat), .int .i64 (cn 6 : Nat), .int .i64 (cn 7 : Nat)] 58)).cell? ⟨wr.heap.size, 4, none⟩ = some (.int .i64 (m : Nat)) := HR0.out.br.cell 4
          have q4 : (0 : Int) ≤ (m : Int) := by omega
          go_wp2_with fail
          clear f4
          generalize w5.alloc (.cells #[.int .i64 (cn 0 : Nat), .int .i64 (cn 1 : Nat), .int .i64 (cn 2 : Nat), .int .i64 (cn 3 : Nat), .int .i64 (cn 4 : Nat), .int .i64 (cn 5 : Nat), .int .i64 (cn 6 : Nat), .int .i64 (cn 7 : Nat)] 58) = w6 at *
          generalize w5.heap.size = kb at *
          generalize wr.heap.size = bb at *
          go_loopg [105] 8 (fun ky s105 wq => ∃ k : Nat, s105 = .int .i64 k ∧ k ≤ 8 ∧ 8 ≤ k + ky ∧ Hid (RS w wq n tg tc ab T vs s.above s.come bb kb ⟨0, 0, -1, -1, (m : Nat), (C.length : Nat)⟩ cn))
          case atStart => exact ⟨0, rfl, Nat.zero_le _, Nat.le_refl _, HR0⟩
          case round =>
            clear HR0
            obtain ⟨k, rfl, hk8, hky, HR⟩ := hrel
            by_cases hlk : k < 8
            · have f4 : wr.cell? ⟨bb, 4, none⟩ = some (.int .i64 (m : Nat)) := HR.out.br.cell 4
              have fk := HR.out.lb.at_ hlk
              have fm := HR.out.lb.at_ HLF.out.1
              have k0 : (0 : Int) ≤ (k : Int) := by omega
              have k1 : (k : Int) < 8 := by omega
              have m0 : (0 : Int) ≤ (m : Int) := by omega
              have m1 : (m : Int) < 8 := by have := HLF.out.1; omega
              have d1 : decide ((8 : Int) ≤ (m : Int)) = false := decide_eq_false (by omega)
              have hle : cn k ≤ cn m := by rw [HCN.out, HCE.out]; exact HLF.out.2.1 k hlk
              have hlt2 : k < m → cn k < cn m := fun h => by rw [HCN.out, HCE.out]; exact HLF.out.2.2.1 k h
              have d2 : decide ((cn m : Int) < (cn k : Int)) = false := decide_eq_false (by omega)
              have d2' : decide (cn m < cn k) = false := decide_eq_false (by omega)
              by_cases heq : cn k = cn m
              · have d3 : ((cn k : Int) == (cn m : Int)) = true := by rw [heq]; simp
                have d3' : (cn k == cn m) = true := by rw [heq]; simp
                have d3'' : decide (cn k = cn m) = true := decide_eq_true heq
                have d4 : decide ((k : Int) < (m : Int)) = false := decide_eq_false (by omega)
                have d4' : decide (k < m) = false := decide_eq_false (by omega)
                clear hle hlt2 heq
                go_wp2_with fail
                go_quiet (fail)
                clear d1 d2 d2' d3 d3' d3'' d4 d4' f4 fk fm
                go_wp2_with fail
                go_roundg (8 - (k + 1))
                case measure => omega
                case rel => exact ⟨k + 1, by go_num, by omega, by omega, Lib.hid (HR.out.new_ ((Keep.refl No _).drewN _))⟩
              · have d3 : ((cn k : Int) == (cn m : Int)) = false := by rw [beq_eq_false_iff_ne]; omega
                have d3' : (cn k == cn m) = false := by rw [beq_eq_false_iff_ne]; omega
                have d3'' : decide (cn k = cn m) = false := decide_eq_false heq
                clear hle hlt2 heq
                go_wp2_with fail
                go_quiet (fail)
                clear d1 d2 d2' d3 d3' d3'' f4 fk fm
                go_wp2_with fail
                go_roundg (8 - (k + 1))
                case measure => omega
                case rel => exact ⟨k + 1, by go_num, by omega, by omega, Lib.hid (HR.out.new_ ((Keep.refl No _).drewN _))⟩
            · obtain rfl : k = 8 := by omega
              have f0 : wr.cell? ⟨bb, 0, none⟩ = some (.int .i64 0) := HR.out.br.cell 0
              have f1 : wr.cell? ⟨bb, 1, none⟩ = some (.int .i64 0) := HR.out.br.cell 1
              have f2 : wr.cell? ⟨bb, 2, none⟩ = some (.int .i64 (-1)) := HR.out.br.cell 2
              have f3 : wr.cell? ⟨bb, 3, none⟩ = some (.int .i64 (-1)) := HR.out.br.cell 3
              have fa := (HR.out.tw.dep hlt).1
              have fc := HR.out.tw.cm.cell hlt
              rw [HVI.out] at fc
              have hfin : ∀ W, RS w W n tg tc ab T vs s.above s.come bb kb ⟨0, 0, -1, -1, (m : Nat), (C.length : Nat)⟩ cn → ∃ vs, TW w.heap.size w W n tg tc ab (ab + 1) T vs (TS.run T s0 (i + 1)).above (TS.run T s0 (i + 1)).come := fun W h => by
                rw [HRUN.out, TS.step, if_pos (Int.natCast_nonneg m)]
                exact ⟨vs, h.tw⟩
              have HFIN := Lib.hid hfin
              clear hfin
              by_cases ha : s.above i < deep
              · have d1 : decide ((s.above i : Int) < (deep : Int)) = true := decide_eq_true (by omega)
                have d1' : decide (s.above i < deep) = true := decide_eq_true ha
                by_cases hf : 1 + (lea : Int) ≤ (C.length : Int)
                · have d2 : decide (1 + (lea : Int) ≤ (C.length : Int)) = true := decide_eq_true hf
                  have HNP := Lib.hid (HLF.out.2.2.2 ha (by rw [← HCE.out]; exact hf))
                  clear ha hf
                  go_wp2_with fail
                  refine (HPa.out _ HR.out.tw).mono ?_
                  rintro e w7 ⟨bo, rfl, hbo, hk7⟩
                  have hbf : bo = false := by
                    cases bo
                    · rfl
                    · exact absurd (hbo.1 rfl) (by rw [HCE.out]; exact HNP.out)
                  subst hbf
                  have HR7 := Lib.hid (HR.out.new_ hk7)
                  clear hbo hk7 HR f0 f1 f2 f3 fa fc d1 d1' d2
                  go_wp2_with fail
                  go_roundg (n - (i + 1))
                  case measure => omega
                  case rel => exact ⟨i + 1, by go_num, by omega, by omega, Lib.hid (HFIN.out _ HR7.out)⟩
                · have d2 : decide (1 + (lea : Int) ≤ (C.length : Int)) = false := decide_eq_false hf
                  clear ha hf
                  go_wp2_with fail
                  clear f0 f1 f2 f3 fa fc d1 d1' d2
                  go_roundg (n - (i + 1))
                  case measure => omega
                  case rel => exact ⟨i + 1, by go_num, by omega, by omega, Lib.hid (HFIN.out _ HR.out)⟩
              · have d1 : decide ((s.above i : Int) < (deep : Int)) = false := decide_eq_false (by omega)
                have d1' : decide (s.above i < deep) = false := decide_eq_false ha
                clear ha
                go_wp2_with fail
                clear f0 f1 f2 f3 fa fc d1 d1'
                go_roundg (n - (i + 1))
                case measure => omega
                case rel => exact ⟨i + 1, by go_num, by omega, by omega, Lib.hid (HFIN.out _ HR.out)⟩
      · obtain ⟨cc, hi', hbe, hcc, hhi, hhn, hem, hab, hfew, hk2⟩ := hfork
        injection hbe with z0 z1 z2 z3 z4
        rw [Int.natCast_add, Int.natCast_one] at z2
        subst z0 z2 z3 z4 hrows
        have HLF := Lib.hid (show _ ∧ _ ∧ _ from ⟨hcc, hhi, hhn⟩)
        have HK2 := Lib.hid hk2
        have HEM := Lib.hid hem
        clear hem
        rw [← HCE.out] at hfew
        have KA := (Keep.refl No wr).alloc (.cells #[.int .i64 (cc : Nat), .int .i64 bcut, .int .i64 ((i : Int) + 1), .int .i64 (hi' : Nat), .int .i64 (-1), .int .i64 (C.length : Nat)] 57)
        have hcj := (KA.cell (p := ⟨ab + 1, i, none⟩) (World.block_lt_of_cell? _ _ hci) (fun x => x)).trans hci
        have q1 : ((C.length : Int) == 0) = false := by
          rw [beq_eq_false_iff_ne]
          omega
        have HKA := Lib.hid KA
        clear KA hk2
        go_wp2_with fail
        go_quiet (fail)
        clear q1 hci e0 e1 e2 e3 e4 e5
        go_wp2_with fail
        clear hcj
        refine (HCo.out _ (HKA.out.drewN _)).mono ?_
        rintro e w5 ⟨rfl, hk5⟩
        have HR0 := Lib.hid (RS.start (c := cn) HS.out (b := ⟨(cc : Nat), bcut, ((i : Int) + 1), (hi' : Nat), -1, (C.length : Nat)⟩) hk5)
        clear hk5 HKA HCo HS
        obtain ⟨w6, hw6⟩ : ∃ w6, w6 = w5.alloc (.cells #[.int .i64 (cn 0 : Nat), .int .i64 (cn 1 : Nat), .int .i64 (cn 2 : Nat), .int .i64 (cn 3 : Nat), .int .i64 (cn 4 : Nat), .int .i64 (cn 5 : Nat), .int .i64 (cn 6 : Nat), .int .i64 (cn 7 : Nat)] 58) := ⟨_, rfl⟩
        have f0 : w6.cell? ⟨wr.heap.size, 0, none⟩ = some (.int .i64 (cc : Nat)) := hw6 ▸ HR0.out.br.cell 0
        have f2 : w6.cell? ⟨wr.heap.size, 2, none⟩ = some (.int .i64 ((i : Int) + 1)) := hw6 ▸ HR0.out.br.cell 2
        have f3 : w6.cell? ⟨wr.heap.size, 3, none⟩ = some (.int .i64 (hi' : Nat)) := hw6 ▸ HR0.out.br.cell 3
        have f4 : w6.cell? ⟨wr.heap.size, 4, none⟩ = some (.int .i64 (-1)) := hw6 ▸ HR0.out.br.cell 4
        have fa : w6.cell? ⟨ab, i, none⟩ = some (.int .i64 (s.above i : Nat)) := hw6 ▸ (HR0.out.tw.dep hlt).1
        have fc : w6.cell? ⟨ab + 1, i, none⟩ = some (.slice Ai C.length ci) := by
          have h := HR0.out.tw.cm.cell hlt
          rw [HVI.out, ← hw6] at h
          exact h
        rw [hw6] at f0 f2 f3 f4 fa fc
        clear hw6
        have k0 : (0 : Int) ≤ (cc : Int) := by omega
        have k1 : (cc : Int) < 3 := by omega
        have d1 : decide ((3 : Int) ≤ (cc : Int)) = false := decide_eq_false (by omega)
        have d2 : decide ((hi' : Int) ≤ ((i : Int) + 1)) = false := decide_eq_false (by omega)
        have d3 : decide ((n : Int) ≤ (hi' : Int)) = false := decide_eq_false (by omega)
        have d4 : decide ((deep : Int) ≤ (s.above i : Int)) = false := decide_eq_false (by omega)
        have d5 : decide ((C.length : Int) < 1 + (lea : Int)) = false := decide_eq_false (by omega)
        have d3' : decide (n ≤ hi') = false := decide_eq_false (by omega)
        have d4' : decide (deep ≤ s.above i) = false := decide_eq_false (by omega)
        go_wp2_with fail
        have HA := Lib.hid (show _ ∧ _ from ⟨hab, hfew⟩)
        clear f0 f2 f3 f4 fa fc d1 d2 d3 d4 d5 d3' d4' hab hfew
        generalize w5.alloc (.cells #[.int .i64 (cn 0 : Nat), .int .i64 (cn 1 : Nat), .int .i64 (cn 2 : Nat), .int .i64 (cn 3 : Nat), .int .i64 (cn 4 : Nat), .int .i64 (cn 5 : Nat), .int .i64 (cn 6 : Nat), .int .i64 (cn 7 : Nat)] 58) = w6 at *
        generalize w5.heap.size = kb at *
        generalize wr.heap.size = bb at *
        have HR1 := Lib.hid (show ∃ vs', vs' i = vs i ∧ RS w w6 n tg tc ab T vs' s.above (midC s cc bcut (i + 1) hi' (C.take 0)) bb kb ⟨(cc : Nat), bcut, (i : Int) + 1, (hi' : Nat), -1, (C.length : Nat)⟩ cn from ⟨vs, rfl, by rw [List.take_zero, midC_nil]; exact HR0.out⟩)
        clear HR0
        go_loopg [236] C.length (fun ky s236 wr => ∃ k : Nat, s236 = .int .i64 k ∧ k ≤ C.length ∧ C.length ≤ k + ky ∧ Hid (∃ vs', vs' i = vs i ∧ RS w wr n tg tc ab T vs' s.above (midC s cc bcut (i + 1) hi' (C.take k)) bb kb ⟨(cc : Nat), bcut, (i : Int) + 1, (hi' : Nat), -1, (C.length : Nat)⟩ cn))
        case atStart => exact ⟨0, rfl, Nat.zero_le _, by omega, HR1⟩
        case round =>
          clear HR1
          obtain ⟨k, rfl, hkC, hky, HR⟩ := hrel
          obtain ⟨vs', hv', hrs⟩ := HR.out
          clear HR
          obtain ⟨i0, hi0, hz0, hz1, hz2⟩ := info_parts info_row
          by_cases hlk : k < C.length
          · have hCi : midC s cc bcut (i + 1) hi' (C.take k) i = C := by
              have := HLF.out.2.1
              unfold midC
              rw [if_neg (by omega), if_neg (by omega), HCE.out]
            have hro := hrs.tw.cm.each i hlt
            rw [hCi, hv', HVI.out] at hro
            obtain ⟨g', rfl, hg', hcells⟩ := hro.at_ (by omega)
            have e0 := hcells k hlk 0 _ rfl
            have e1 := hcells k hlk 1 _ rfl
            have e2 := hcells k hlk 2 _ rfl
            have e3 := hcells k hlk 3 _ rfl
            rw [Nat.add_zero] at e0
            have hex := Lib.hid (List.take_append_getElem hlk)
            clear hcells hCi hro
            generalize C[k] = p at *
            have hkp := (Keep.refl No wr).alloc (.cells #[.int .i64 p.a, .int .i64 p.b, .int .i64 p.c, .int .i64 p.l] 33)
            have hrs2 := hrs.new_ hkp
            have c1 : (wr.alloc (.cells #[.int .i64 p.a, .int .i64 p.b, .int .i64 p.c, .int .i64 p.l] 33)).cell? ⟨wr.heap.size, cc, none⟩ = some (.int .i64 (p.x cc)) := by
              rw [(Blk.new wr 33 #[.int .i64 p.a, .int .i64 p.b, .int .i64 p.c, .int .i64 p.l]).cell cc, List.getElem?_toArray]
              exact row_cell p HLF.out.1
            have f0 : (wr.alloc (.cells #[.int .i64 p.a, .int .i64 p.b, .int .i64 p.c, .int .i64 p.l] 33)).cell? ⟨bb, 0, none⟩ = some (.int .i64 (cc : Nat)) := hrs2.br.cell 0
            have f1 : (wr.alloc (.cells #[.int .i64 p.a, .int .i64 p.b, .int .i64 p.c, .int .i64 p.l] 33)).cell? ⟨bb, 1, none⟩ = some (.int .i64 bcut) := hrs2.br.cell 1
            have f2 : (wr.alloc (.cells #[.int .i64 p.a, .int .i64 p.b, .int .i64 p.c, .int .i64 p.l] 33)).cell? ⟨bb, 2, none⟩ = some (.int .i64 ((i : Int) + 1)) := hrs2.br.cell 2
            have f3 : (wr.alloc (.cells #[.int .i64 p.a, .int .i64 p.b, .int .i64 p.c, .int .i64 p.l] 33)).cell? ⟨bb, 3, none⟩ = some (.int .i64 (hi' : Nat)) := hrs2.br.cell 3
            have HS2 := Lib.hid hrs2
            have HV' := Lib.hid hv'
            have t0 : (0 : Int) ≤ (k : Int) := by omega
            have t1 : (k : Int) < (C.length : Int) := by omega
            have t5 : k < 500 := by have := HPO.out.2.2; omega
            clear hrs hrs2 hkp hv'
            generalize hpx : p.x cc = px at *
            have HPX := Lib.hid hpx
            clear hpx
            by_cases hx : px ≤ bcut
            · have dx : decide (px ≤ bcut) = true := decide_eq_true hx
              have HX := Lib.hid hx
              clear hx
              go_wp2_with fail
              go_quiet (fail)
              go_wp2_with fail
              have HS3 := Lib.hid (HS2.out.new_ ((Keep.refl No _).drewN nq))
              have HRB := Lib.hid ((Blk.new wr 33 #[.int .i64 p.a, .int .i64 p.b, .int .i64 p.c, .int .i64 p.l]).drewN nq)
              generalize (wr.alloc (.cells #[.int .i64 p.a, .int .i64 p.b, .int .i64 p.c, .int .i64 p.l] 33)).drewN nq = W1 at *
              clear c1 f0 f1 f2 f3 HS2 dx
              have r0 : W1.cell? ⟨wr.heap.size, 0, none⟩ = some (.int .i64 p.a) := HRB.out.cell 0
              have r1 : W1.cell? ⟨wr.heap.size, 1, none⟩ = some (.int .i64 p.b) := HRB.out.cell 1
              have r2 : W1.cell? ⟨wr.heap.size, 2, none⟩ = some (.int .i64 p.c) := HRB.out.cell 2
              have r3 : W1.cell? ⟨wr.heap.size, 3, none⟩ = some (.int .i64 p.l) := HRB.out.cell 3
              have hton : (i + 1) < n := by have := HLF.out.2; omega
              have hto := HS3.out.tw.cm.cell hton
              obtain ⟨A2, c2, hv2, -⟩ := (HS3.out.tw.cm.each (i + 1) hton).shape
              obtain ⟨TL, hTL⟩ : ∃ TL, TL = midC s cc bcut (i + 1) hi' (C.take k) (i + 1) := ⟨_, rfl⟩
              rw [← hTL] at hv2
              rw [hv2] at hto
              have hto2 : (W1.alloc (.cells #[.int .i64 p.a, .int .i64 p.b, .int .i64 p.c, .int .i64 p.l] 33)).cell? _ = _ := (((Keep.refl No W1).alloc _).cell (World.block_lt_of_cell? _ _ hto) (fun x => x)).trans hto
              have HTN := Lib.hid hton
              have HS4 := Lib.hid (HS3.out.new_ ((Keep.refl No W1).drew))
              have HV2 := Lib.hid hv2
              have HOW := Lib.hid (HS4.out.tw.cm.each (i + 1) hton)
              rw [← hTL, hv2] at HOW
              have HTL2 := Lib.hid hTL
              have htl : TL.length ≤ 500 := by
                rw [hTL]
                rw [HCE.out]
                exact midC_len (by rw [← HCE.out]; exact HPO.out.2.2) (HEM.out.1) (HEM.out.2) (by omega)
              have HTLL := Lib.hid htl
              have q0 : (0 : Int) ≤ ((i : Int) + 1) := by omega
              have q2 : ((i : Int) + 1) < (n : Int) := by omega
              clear hton hv2 hTL htl HRB e0 e1 e2 e3
              go_region_law (go_loud (refine step_append_any _ (by rfl) _ _ _ (by rfl) w.heap.size 33 i0 _ 4 32 Try.underlying22 hi0 hz0 hz1 hz2 rfl (by omega) _ TL.length (rcells TL) (by rfl) (own_keep HOW.out ((Keep.refl No _).alloc _) (fun _ _ x => x)) w.heap.size _ 1 1 p.cells (by rfl) (rec_new (by rfl)) (by simp [Value.oneCell', Row.cells]) (by have := HTLL.out; simp only [maxLen]; omega) (by have := HTLL.out; omega) (Nat.le_trans HS4.out.tw.kp.size (Keep.size (S := No) ((Keep.refl No _).alloc _))) ?_; intro v5 w5 hown5 hg5 hat5; obtain ⟨A5, c5, hv5, hc5⟩ := own_shape hown5; subst hv5; have HM5 := Lib.hid (HS4.out.push HTN.out (r := p) (by rw [← HTL2.out]; exact hown5) (by rw [HV2.out]; exact hg5) (by rw [HV2.out]; exact hat5)); have B5 := HS4.out.tw.pushb HTN.out (by rw [HV2.out]; exact hg5); have b5 := B5.1; rw [HV2.out] at b5; have b6 := B5.2; clear hown5 hg5 hat5 hc5 B5))
              all_goals
                go_wp2_with fail
                go_roundg (C.length - (k + 1))
                case measure => omega
                case rel => exact ⟨k + 1, by go_num, by omega, by omega, Lib.hid ⟨fun j => if j = i + 1 then .slice A5 (TL.length + 1) c5 else vs' j, (if_neg (show ¬ i = i + 1 by omega)).trans HV'.out, by rw [← hex.out]; exact HM5.out.ext (fun j _ => midC_low (by rw [HPX.out]; exact HX.out) j)⟩⟩
            · have dx : decide (px ≤ bcut) = false := decide_eq_false hx
              have HX := Lib.hid hx
              clear hx
              go_wp2_with fail
              go_quiet (fail)
              go_wp2_with fail
              have HS3 := Lib.hid (HS2.out.new_ ((Keep.refl No _).drewN nq))
              have HRB := Lib.hid ((Blk.new wr 33 #[.int .i64 p.a, .int .i64 p.b, .int .i64 p.c, .int .i64 p.l]).drewN nq)
              generalize (wr.alloc (.cells #[.int .i64 p.a, .int .i64 p.b, .int .i64 p.c, .int .i64 p.l] 33)).drewN nq = W1 at *
              clear c1 f0 f1 f2 f3 HS2 dx
              have r0 : W1.cell? ⟨wr.heap.size, 0, none⟩ = some (.int .i64 p.a) := HRB.out.cell 0
              have r1 : W1.cell? ⟨wr.heap.size, 1, none⟩ = some (.int .i64 p.b) := HRB.out.cell 1
              have r2 : W1.cell? ⟨wr.heap.size, 2, none⟩ = some (.int .i64 p.c) := HRB.out.cell 2
              have r3 : W1.cell? ⟨wr.heap.size, 3, none⟩ = some (.int .i64 p.l) := HRB.out.cell 3
              have hton : hi' < n := by have := HLF.out.2; omega
              have hto := HS3.out.tw.cm.cell hton
              obtain ⟨A2, c2, hv2, -⟩ := (HS3.out.tw.cm.each hi' hton).shape
              obtain ⟨TL, hTL⟩ : ∃ TL, TL = midC s cc bcut (i + 1) hi' (C.take k) hi' := ⟨_, rfl⟩
              rw [← hTL] at hv2
              rw [hv2] at hto
              have hto2 : (W1.alloc (.cells #[.int .i64 p.a, .int .i64 p.b, .int .i64 p.c, .int .i64 p.l] 33)).cell? _ = _ := (((Keep.refl No W1).alloc _).cell (World.block_lt_of_cell? _ _ hto) (fun x => x)).trans hto
              have HTN := Lib.hid hton
              have HS4 := Lib.hid (HS3.out.new_ ((Keep.refl No W1).drew))
              have HV2 := Lib.hid hv2
              have HOW := Lib.hid (HS4.out.tw.cm.each hi' hton)
              rw [← hTL, hv2] at HOW
              have HTL2 := Lib.hid hTL
              have htl : TL.length ≤ 500 := by
                rw [hTL]
                rw [HCE.out]
                exact midC_len (by rw [← HCE.out]; exact HPO.out.2.2) (HEM.out.1) (HEM.out.2) (by omega)
              have HTLL := Lib.hid htl
              have q0 : (0 : Int) ≤ (hi' : Int) := by omega
              have q2 : (hi' : Int) < (n : Int) := by omega
              clear hton hv2 hTL htl HRB e0 e1 e2 e3
              go_region_law (go_loud (refine step_append_any _ (by rfl) _ _ _ (by rfl) w.heap.size 33 i0 _ 4 32 Try.underlying22 hi0 hz0 hz1 hz2 rfl (by omega) _ TL.length (rcells TL) (by rfl) (own_keep HOW.out ((Keep.refl No _).alloc _) (fun _ _ x => x)) w.heap.size _ 1 1 p.cells (by rfl) (rec_new (by rfl)) (by simp [Value.oneCell', Row.cells]) (by have := HTLL.out; simp only [maxLen]; omega) (by have := HTLL.out; omega) (Nat.le_trans HS4.out.tw.kp.size (Keep.size (S := No) ((Keep.refl No _).alloc _))) ?_; intro v5 w5 hown5 hg5 hat5; obtain ⟨A5, c5, hv5, hc5⟩ := own_shape hown5; subst hv5; have HM5 := Lib.hid (HS4.out.push HTN.out (r := p) (by rw [← HTL2.out]; exact hown5) (by rw [HV2.out]; exact hg5) (by rw [HV2.out]; exact hat5)); have B5 := HS4.out.tw.pushb HTN.out (by rw [HV2.out]; exact hg5); have b5 := B5.1; rw [HV2.out] at b5; have b6 := B5.2; clear hown5 hg5 hat5 hc5 B5))
              all_goals
                go_wp2_with fail
                go_roundg (C.length - (k + 1))
                case measure => omega
                case rel => exact ⟨k + 1, by go_num, by omega, by omega, Lib.hid ⟨fun j => if j = hi' then .slice A5 (TL.length + 1) c5 else vs' j, (if_neg (show ¬ i = hi' by have := HLF.out.2.1; omega)).trans HV'.out, by rw [← hex.out]; exact HM5.out.ext (fun j _ => midC_high (by rw [HPX.out]; have := HX.out; omega) (by have := HLF.out.2.1; omega) j)⟩⟩
          · obtain rfl : k = C.length := by omega
            rw [List.take_length] at hrs
            have f2 : wr.cell? ⟨bb, 2, none⟩ = some (.int .i64 ((i : Int) + 1)) := hrs.br.cell 2
            have fa := (hrs.tw.dep hlt).1
            have hl1 : i + 1 < n := by have := HLF.out.2; omega
            have fl := hrs.tw.dep hl1
            have fl1 := fl.1
            have fl2 := fl.2
            have hab6 : s.above i < 7 := by have := HA.out.1; have := HD.out.1; omega
            have HAB := Lib.hid hab6
            have hw : IntKind.i64.wrap ((s.above i : Int) + 1) = (s.above i : Int) + 1 := IntWalk.i64_in _ ⟨by omega, by omega⟩
            have q1 : (0 : Int) ≤ (i : Int) + 1 := by omega
            have q2 : (i : Int) + 1 < (n : Int) := by omega
            have HS6 := Lib.hid ((hrs.deep (i + 1) (s.above i + 1)).new_ ((Keep.refl No _).drew))
            rw [Int.natCast_add, Int.natCast_one] at HS6
            have HL1 := Lib.hid hl1
            clear hrs fl hab6 hl1
            go_wp2_with fail
            go_still_tail 9, (by kernel_rfl)
            go_wp2_with fail
            clear f2 fa fl1 fl2 q1 q2
            generalize (wr.setCell ⟨ab, i + 1, none⟩ (.int .i64 ((s.above i : Int) + 1))).drew = w8 at *
            have f3 : w8.cell? ⟨bb, 3, none⟩ = some (.int .i64 (hi' : Nat)) := HS6.out.br.cell 3
            have fa := (HS6.out.tw.dep hlt).1
            rw [if_neg (show ¬ i = i + 1 by omega)] at fa
            have hl2 : hi' < n := HLF.out.2.2
            have fl := HS6.out.tw.dep hl2
            have fl1 := fl.1
            have fl2 := fl.2
            rw [if_neg (show ¬ hi' = i + 1 by have := HLF.out.2.1; omega)] at fl1
            have q1 : (0 : Int) ≤ (hi' : Int) := by omega
            have q2 : (hi' : Int) < (n : Int) := by omega
            have HS7 := Lib.hid ((HS6.out.deep hi' (s.above i + 1)).new_ ((Keep.refl No _).drew))
            rw [Int.natCast_add, Int.natCast_one] at HS7
            clear fl hl2 HS6
            go_still_tail 9, (by kernel_rfl)
            go_wp2_with fail
            clear f3 fa fl1 fl2 q1 q2 hw
            generalize (w8.setCell ⟨ab, hi', none⟩ (.int .i64 ((s.above i : Int) + 1))).drew = w9 at *
            have HS8 := Lib.hid (show RS w w9 n tg tc ab T vs' (TS.run T s0 (i + 1)).above (TS.run T s0 (i + 1)).come bb kb ⟨(cc : Nat), bcut, (i : Int) + 1, (hi' : Nat), -1, (C.length : Nat)⟩ cn from by
              rw [HRUN.out, step_fork, ← HCE.out]
              exact HS7.out)
            clear HS7
            go_loopg [22, 281] 8 (fun ky s22 s281 wr => ∃ k : Nat, s281 = .int .i64 k ∧ k ≤ 8 ∧ 8 ≤ k + ky ∧ s22 = .int .i64 (kindN cn k : Nat) ∧ Hid (RS w wr n tg tc ab T vs' (TS.run T s0 (i + 1)).above (TS.run T s0 (i + 1)).come bb kb ⟨(cc : Nat), bcut, (i : Int) + 1, (hi' : Nat), -1, (C.length : Nat)⟩ cn))
            case atStart => exact ⟨0, rfl, Nat.zero_le _, Nat.le_refl _, rfl, HS8⟩
            case round =>
              clear HS8
              obtain ⟨k, rfl, hk8, hky, rfl, HR⟩ := hrel
              by_cases hlk : k < 8
              · have fk := HR.out.lb.at_ hlk
                have k0 : (0 : Int) ≤ (k : Int) := by omega
                have k1 : (k : Int) < 8 := by omega
                have hkn := kindN_le cn k
                have HKN := Lib.hid (show kindN cn (k + 1) = kindN cn k + if 0 < cn k then 1 else 0 from rfl)
                generalize kindN cn k = kn at *
                have hkn8 : kn < 100 := by omega
                by_cases hp : 0 < cn k
                · have d1 : decide ((0 : Int) < (cn k : Int)) = true := decide_eq_true (by omega)
                  have d1' : decide (0 < cn k) = true := decide_eq_true hp
                  rw [if_pos hp] at HKN
                  clear hp hkn
                  go_wp2_with fail
                  go_roundg (8 - (k + 1))
                  case measure => omega
                  case rel => exact ⟨k + 1, by go_num, by omega, by omega, by rw [HKN.out]; go_num, HR⟩
                · have d1 : decide ((0 : Int) < (cn k : Int)) = false := decide_eq_false (by omega)
                  have d1' : decide (0 < cn k) = false := decide_eq_false hp
                  rw [if_neg hp] at HKN
                  clear hp hkn
                  go_wp2_with fail
                  go_roundg (8 - (k + 1))
                  case measure => omega
                  case rel => exact ⟨k + 1, by go_num, by omega, by omega, by rw [HKN.out]; rfl, HR⟩
              · obtain rfl : k = 8 := by omega
                have hk28 : 2 ≤ kindN cn 8 := by
                  obtain ⟨a1, a2, b1, b2, b3, b4, b5⟩ := HK2.out
                  rw [← HCE.out, ← HCN.out] at b4 b5
                  exact kindN_two b4 b5 b3 8 b1 b2
                generalize kindN cn 8 = kn at *
                have d1 : decide ((kn : Int) < 2) = false := decide_eq_false (by omega)
                have d1' : decide (kn < 2) = false := decide_eq_false (by omega)
                clear hk28
                go_wp2_with fail
                go_roundg (n - (i + 1))
                case measure => omega
                case rel => exact ⟨i + 1, by go_num, by omega, by omega, Lib.hid ⟨_, HR.out.tw⟩⟩
    · obtain rfl : i = n := by omega
      have HK := Lib.hid (show Keep No w wr from by obtain ⟨_, h⟩ := HS0.out; exact h.kp)
      have HAl := Lib.hid (fun W => alive_any W)
      clear HS0
      go_wp2_with fail
      refine (HAl.out _).mono ?_
      rintro e w9 ⟨rfl, hk9⟩
      have HK9 := Lib.hid (HK.out.trans hk9 (fun _ x => x.elim))
      clear hk9
      go_wp2_with fail
      go_ret
      exact ⟨rfl, HK9.out⟩
end Go.Proofs.Ytgabidgpngiecaa
