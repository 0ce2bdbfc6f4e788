/- OrderYields: the first range's round. Conditions: each names its own. -/
import Derived.Test.YtdmckjojeddaaaaYB
namespace Go.Proofs.Ytdmckjojeddaaaa
open Go.RowKit Go.Proofs.YtdmckjojeddaaaaKit Go.Proofs.YtdmckjojeddaaaaPlain
attribute [local go_sem] Oper.semAt_some
set_option maxHeartbeats 8000000 in
set_option maxRecDepth 200000 in
theorem body0 {lim base : Nat} {w W0 : World} {b5 b6 b7 b10 b13 b14 mb : Nat} {stop : Int} {A : Option Addr} {n c : Nat} {B : Option Addr} {n2 c2 : Nat} {seed : Int} {dd : List Nat} {L : PairL} {key value : List UInt8} {pre : List Came} {x : Came} {W : World} {B0 yy : Nat}
    (hI : YI ⟨lim, base, w, W0, b5, b6, b7, b10, b13, b14, mb, stop, 0, A, n, c, B, n2, c2, seed, dd⟩ (yat L key value) pre W) (hM : Came.M L B0 pre x W) (hB : W0.heap.size ≤ B0) (hlim : lim ≤ W0.heap.size) (hbl : base ≤ lim)
    (hk : Bytes base w A n key) (hv : Bytes base w B n2 value) (hok : keyOk key value) (hL : Sorted L ∧ Okay L) (hsz : L.length ≤ 400) (hns : ¬ (1 ≤ stop ∧ stop ≤ ((pre.length : Nat) : Int))) {y0 y3 y4 y8 y9 y11 y12 y17 y18 y19 y20 y21 y22 y23 y24 y25 y26 y27 y28 y29 y30 y31 y32 y33 y34 y35 y36 y37 y38 y39 y40 y41 y42 y43 y44 y45 y46 y47 y48 y49 y50 y51 y52 y53 y54 y55 y56 y57 y58 y61 y62 y63 y64 y65 y66 y67 y68 y69 y70 y71 y72 y73 y74 y75 y76 y77 y78 y79 y80 y81 y82 y83 y84 y85 y86 y87 y88 y89 y90 y91 y92 y93 y94 y95 y96 y97 y98 y99 y100 y101 y102 y103 y104 y105 y106 y107 y108 y109 y110 y111 y112 y113 y114 y115 y116 y117 y118 y119 y120 y121 y122 y123 y124 y125 y126 y127 y128 y129 y130 y131 y132 y133 y134 y135 y136 y137 y138 y139 y140 y141 y142 y143 y144 y145 y146 y147 y148 y149 y150 y151 y152 y153 y154 y155 y156 y157 y158 y159 y160 y161 y162 : Value} :
    yBody.wpIn (Fence.wide.inRound yy) (3 - 1 - 1) Try.prog (RoundEnd W0.heap.size x.sp (YN ⟨lim, base, w, W0, b5, b6, b7, b10, b13, b14, mb, stop, 0, A, n, c, B, n2, c2, seed, dd⟩ (yat L key value)) (YX ⟨lim, base, w, W0, b5, b6, b7, b10, b13, b14, mb, stop, 0, A, n, c, B, n2, c2, seed, dd⟩ (yat L key value)) (pre ++ [x]) W) { tmps := #[y0, .pointer (some ⟨w.heap.size, 0, none⟩), .pointer (some ⟨w.heap.size + 1, 0, none⟩), y3, y4, .pointer (some ⟨b5, 0, none⟩), .pointer (some ⟨b6, 0, none⟩), .pointer (some ⟨b7, 0, none⟩), y8, y9, .pointer (some ⟨b10, 0, none⟩), y11, y12, .pointer (some ⟨b13, 0, none⟩), .pointer (some ⟨b14, 0, none⟩), .slice x.A x.k.length x.c, .slice x.B x.v.length x.d, y17, y18, y19, y20, y21, y22, y23, y24, y25, y26, y27, y28, y29, y30, y31, y32, y33, y34, y35, y36, y37, y38, y39, y40, y41, y42, y43, y44, y45, y46, y47, y48, y49, y50, y51, y52, y53, y54, y55, y56, y57, y58, .slice x.A x.k.length x.c, .slice x.B x.v.length x.d, y61, y62, y63, y64, y65, y66, y67, y68, y69, y70, y71, y72, y73, y74, y75, y76, y77, y78, y79, y80, y81, y82, y83, y84, y85, y86, y87, y88, y89, y90, y91, y92, y93, y94, y95, y96, y97, y98, y99, y100, y101, y102, y103, y104, y105, y106, y107, y108, y109, y110, y111, y112, y113, y114, y115, y116, y117, y118, y119, y120, y121, y122, y123, y124, y125, y126, y127, y128, y129, y130, y131, y132, y133, y134, y135, y136, y137, y138, y139, y140, y141, y142, y143, y144, y145, y146, y147, y148, y149, y150, y151, y152, y153, y154, y155, y156, y157, y158, y159, y160, y161, y162], defers := [] } W := by
  obtain ⟨hlt, hx⟩ := prs_at hM.1
  have hxok := hL.2 _ (List.getElem_mem hlt)
  rw [hx] at hxok
  have hhas := yat_has hL.1 key value hlt
  have hrnd := yat_round hL.1 key value hlt
  have hput := yat_put hL.1 key value value pre.length
  rw [hx] at hhas hrnd
  have hl1 := yat_length L key value pre.length
  have hl2 := length_putL L key value
  have hl3 : (dropL (putL L key value) x.k).length ≤ (putL L key value).length := by
    unfold dropL
    split
    · rw [List.length_append, List.length_take, List.length_drop]; omega
    · exact Nat.le_refl _
  have h1 := hxok.1
  have h2 := hxok.2.1
  have h3 := hxok.2.2
  simp only [Came.pr] at h1 h2 h3 hxok hhas hrnd
  obtain ⟨v, F, r1, r2, r3, r4⟩ := hI.row hM hB
  obtain ⟨A9, n9, c9, rfl, hn9, hc9⟩ := r2.shape
  have hn9' : n9 = pre.length := by rw [hn9.out]; simp [prs]
  subst hn9'
  have c14 := r1.cell 0
  have z14 := r1.frozen 0
  simp only [List.getElem?_toArray, List.getElem?_cons_zero] at c14
  have l14 := r1.lt
  have hcm := hM.2.2.1.came
  have HC1 := Lib.hid (rcopy_any (base := base) x.A x.k.length x.c x.k W.drew ((Bytes.of_own hcm.1).drew) (by omega))
  have HC2 := Lib.hid (fun W1 (h : Keep No W.drew W1) => rcopy_any (base := base) x.B x.v.length x.d x.v W1 (((Bytes.of_own hcm.2).drew).new_ h) (by omega))
  have hpl : (prs pre).length ≤ 1000000 := by have : (prs pre).length = pre.length := (by simp [prs]); omega
  have HG := Lib.hid (fun (W2 : World) (Ak Av : Option Addr) (ck cv : Nat) (tw : Twin W x.k x.v Ak Av ck cv W2) => got_step (k := x.k) (x := x.v) r2 hM.2.2.2.2.2.1 tw hpl)
  have HS := Lib.hid (fun (v5 : Value) (w5 : World) (h5 : OwnPI x.top (prs pre ++ [x.pr]) v5 w5) hk5 => YM.start hI hM hB hlim hbl r1 r2 r3 r4 h5 hk5)
  have HB := Lib.hid (fun (W' : World) (hk5 : Keep (fun b => (Value.slice A9 pre.length c9).ownBlock = some b) W W') => r1.keep hk5 (fun e => by have h5 := r2.ge e; have h8 := hI.l14.2; have h7 := hM.2.1; have h6 := hM.2.2.2.1; have h9 := hM.2.2.2.2.1; dsimp only at h8 h5; omega))
  have HK := Lib.hid (show _ ∧ _ ∧ _ from ⟨hk, hv, hok⟩)
  have HX := Lib.hid (show _ ∧ _ ∧ _ ∧ _ from ⟨hxok, hhas, hrnd, hput⟩)
  have HNS0 := Lib.hid hns
  clear hns hI hM hB r1 r2 r3 r4 hcm hk hv hok hxok hhas hrnd hput hL hx hn9 hpl
  conv => arg 4; whnf
  dsimp only at c14 z14 l14 ⊢
  gi_upto_region 16 with fail
  gi_cut [] from 61 (fun wx => Hid (YM ⟨lim, base, w, W0, b5, b6, b7, b10, b13, b14, mb, stop, 0, A, n, c, B, n2, c2, seed, dd⟩ pre x W (yat L key value pre.length) wx))
  case first =>
    gi_region_with (first
      | (refine ⟨trivial, ?_⟩; gi_at_call_has 42 (Value.slice x.A x.k.length x.c); refine (CallsIn.inRound yy (callsIn_wide.2 HC1.out)).mono ?_; rintro e W1 ⟨Ak, ck, rfl, hck, ho1, hk1⟩; have d14 := (hk1.cell (p := ⟨b14, 0, none⟩) l14 (fun h => h)).trans c14)
      | (refine ⟨trivial, ?_⟩; gi_at_call_has 42 (Value.slice x.B x.v.length x.d); refine (CallsIn.inRound yy (callsIn_wide.2 (HC2.out _ hk1))).mono ?_; rintro e W2 ⟨Av, cv, rfl, hcv, ho2, hk2⟩;
         have hk12 : Keep No W W2 := (hk1.trans hk2 (fun _ h => h.elim)).of_drew;
         have e14 := (hk12.cell (p := ⟨b14, 0, none⟩) l14 (fun h => h)).trans c14;
         have e14a := ((hk12.alloc (.cells #[.slice Ak x.k.length ck, .slice Av x.v.length cv] 82)).cell (p := ⟨b14, 0, none⟩) l14 (fun h => h)).trans c14;
         obtain ⟨v5, w5, hrun, ho5, hk5⟩ := HG.out W2 Ak Av ck cv (twin_two ho1 hk1.of_drew ho2 hk2 hck hcv);
         obtain ⟨A8, n8, c8, rfl, hn8, hc8⟩ := ho5.shape;
         have g14 := (HB.out w5 hk5).cell 0;
         have f14 := (HB.out w5 hk5).frozen 0;
         simp only [List.getElem?_toArray, List.getElem?_cons_zero] at g14;
         have HYM := Lib.hid (HS.out _ w5 ho5 hk5);
         clear ho1 ho2 hk2 ho5 hk5)
      | (refine uponIn_eq (o := ⟨some 68, _, _, _, _, _⟩) (r' := .ok (.value (.slice A8 n8 c8)) w5) ?_ ?_
         · (refine Eq.trans ?_ (app_run hrun)
            clear hrun HYM HS HB HG HC1 HC2 HX HK d14 e14 e14a g14 f14 c14 z14
            symm
            go_simp)))
    all_goals
      first
        | (gi_meet; exact HYM)
        | ((first | gi_step | go_step); gi_meet; exact HYM)
        | ((first | gi_step | go_step); (first | gi_step | go_step); gi_meet; exact HYM)
        | ((first | gi_step | go_step); (first | gi_step | go_step); (first | gi_step | go_step); gi_meet; exact HYM)
  case rest =>
    obtain ⟨W5, rfl⟩ : ∃ z : World, z = wc := ⟨_, rfl⟩
    have HYM := hcut
    clear c14 z14 l14 HC1 HC2 HG HS HB hcut
    obtain ⟨q13, q5, q6, q7, q10, _⟩ := HYM.out.cells
    dsimp only at q13 q5 q6 q7 q10
    have HP1 := Lib.hid (HYM.out.put_ (c := c) (d := c2) (HK.out.1.new_ HYM.out.st.k) (HK.out.2.1.new_ HYM.out.st.k) HK.out.2.2 (by omega))
    rw [HX.out.2.2.2] at HP1
    clear HYM
    gi_wp2_with (first
      | (refine ⟨trivial, ?_⟩; gi_at_call_has 43 (Value.slice A n c); refine (CallsIn.inRound yy (callsIn_wide.2 HP1.out)).mono ?_; rintro e W6 ⟨rfl, hy6⟩; obtain ⟨_, _, _, _, p10, _⟩ := hy6.cells; dsimp only at p10; have HY6 := Lib.hid hy6; clear hy6 HP1)
      | (refine ⟨trivial, ?_⟩; gi_at_call 44; refine (CallsIn.inRound yy (callsIn_wide.2 (HY6.out.drop_ HY6.out.bytes.1 (by omega) HX.out.2.1))).mono ?_; rintro e W7 ⟨rfl, hy7⟩; obtain ⟨_, _, _, _, o10, _⟩ := hy7.cells; dsimp only at o10; have HY7 := Lib.hid hy7; clear hy7 HY6)
      | (refine ⟨trivial, ?_⟩; gi_at_call_has 43 (Value.slice x.A x.k.length x.c); refine (CallsIn.inRound yy (callsIn_wide.2 (HY7.out.put_ HY7.out.bytes.1 HY7.out.bytes.2 HX.out.1 (by omega)))).mono ?_; rintro e W8 ⟨rfl, hy8⟩; have HY8 := Lib.hid hy8; clear hy8 HY7))
    obtain ⟨g, i, A9, c9, eA, hc, hf, k14, k5, hne14, hne5, hsp⟩ := HY8.out.spoil (ml := yat L key value) HX.out.2.2.1 hlim h1
    dsimp only at k14 k5 hne14 hne5
    have HSP := Lib.hid hsp
    have h0 : 0 < x.k.length := h1
    clear hsp HY8
    rw [eA]
    clear eA
    by_cases hst : ((pre.length : Nat) : Int) + 1 = stop
    · have hd : (((pre.length : Nat) : Int) + 1 == stop) = true := by simp [hst]
      have HST := Lib.hid hst
      clear hst
      gi_wp2
      exact ⟨(HSP.out _).2, rfl, (HSP.out _).1, by have := HST.out; rw [List.length_append]; simpa using this, rfl, by simp⟩
    · have hd : (((pre.length : Nat) : Int) + 1 == stop) = false := by simp [hst]
      have hns := HNS0.out
      have HNS := Lib.hid (show ¬ (1 ≤ stop ∧ stop ≤ (((pre ++ [x]).length : Nat) : Int)) from fun h => by
        rw [List.length_append] at h
        simp only [List.length_singleton] at h
        have := h.1
        have := h.2
        omega)
      clear hst hns
      gi_wp2
      exact ⟨(HSP.out _).2, (HSP.out _).1, HNS.out⟩
end Go.Proofs.Ytdmckjojeddaaaa
