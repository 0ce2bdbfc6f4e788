/- The reference's Vote. Conditions: each names its own. -/
import Derived.Test.YtgabidgpngiecaaGreatRT0
import Derived.Test.YtgabidgpngiecaaGreatLM0
import Derived.Test.YtgabidgpngiecaaGreatLV4
namespace Go.Proofs.YtgabidgpngiecaaGreat
open Go.RowKit Go.Proofs.YtgabidgpngiecaaGreatKit Go.Proofs.YtgabidgpngiecaaGreatPlain

/-! ### Plain: labels one after another -/
def bestAll (C : List Row) (b : Int) (T : List Row) : Int := T.foldl (fun b r => bestStep C b r.l) b
theorem bestAll_push (C : List Row) (b : Int) (T : List Row) (r : Row) : bestAll C b (T ++ [r]) = bestStep C (bestAll C b T) r.l := by
  unfold bestAll
  rw [List.foldl_append]
  rfl
theorem bestStep_le (C : List Row) (b lab : Int) : cntL C b ≤ cntL C (bestStep C b lab) ∧ cntL C lab ≤ cntL C (bestStep C b lab) := by
  unfold bestStep
  split <;> omega
theorem best_firsts (C : List Row) (b : Int) : ∀ (n : Nat) (T : List Row), T.length = n → (firsts T).foldl (bestStep C) b = bestAll C b T ∧ cntL C b ≤ cntL C (bestAll C b T) ∧ ∀ lab ∈ firsts T, cntL C lab ≤ cntL C (bestAll C b T)
  | 0, T, h => by
    obtain rfl := List.eq_nil_of_length_eq_zero h
    exact ⟨rfl, Nat.le_refl _, fun _ h => by cases h⟩
  | n + 1, T, h => by
    obtain ⟨T', r, rfl⟩ : ∃ T' r, T = T' ++ [r] := ⟨T.dropLast, T.getLast (by intro e; rw [e] at h; cases h), (List.dropLast_concat_getLast _).symm⟩
    obtain ⟨h1, h2, h3⟩ := best_firsts C b n T' (by simp at h; omega)
    have h4 := bestStep_le C (bestAll C b T') r.l
    rw [bestAll_push, firsts_push]
    split
    · next hm =>
      have h5 := h3 _ hm
      have h6 : bestStep C (bestAll C b T') r.l = bestAll C b T' := by
        unfold bestStep
        rw [if_neg (by omega)]
      rw [h6]
      exact ⟨h1, h2, h3⟩
    · next hm =>
      refine ⟨?_, by omega, fun lab hl => ?_⟩
      · rw [List.foldl_append, h1]
        rfl
      · rcases List.mem_append.1 hl with hl | hl
        · have := h3 _ hl
          omega
        · rw [List.mem_singleton] at hl
          subst hl
          exact h4.2
theorem bestOf_all {T : List Row} (h : 0 < T.length) : bestOf T = bestAll T T[0].l T := by
  match T, h with
  | r :: T, _ =>
    have h1 := (best_firsts (r :: T) r.l _ (r :: T) rfl).1
    rw [← show (firsts (r :: T)).foldl (bestStep (r :: T)) r.l = bestAll (r :: T) ((r :: T)[0]'(by simp)).l (r :: T) from h1]
    rfl
/-- What the reference's Vote returns. -/
def RVote (x : Row) (k : Int) (l : List Row) (e : Ending) : Prop :=
  if okPt x ∧ 1 ≤ k then (if l.length = 0 then e = .returned (.tuple #[.int .i64 0, .int .i64 3]) else ∃ N, NearL x l N ∧ e = .returned (.tuple #[.int .i64 (bestOf (N.take k.toNat)), .int .i64 0])) else e = .returned (.tuple #[.int .i64 0, .int .i64 1])
theorem vote_ref {x : Row} {k : Int} {l l' : List Row} (hp : l.Perm l') {e e' : Ending} (h : voteV x k l e) (h' : RVote x k l' e') : e = e' := by
  unfold voteV at h
  unfold RVote at h'
  by_cases hc : okPt x ∧ 1 ≤ k
  · rw [if_pos hc] at h h'
    by_cases h0 : l.length = 0
    · rw [if_pos h0] at h
      rw [if_pos (by rw [← hp.length_eq]; exact h0)] at h'
      rw [h, h']
    · rw [if_neg h0] at h
      rw [if_neg (by rw [← hp.length_eq]; exact h0)] at h'
      obtain ⟨L, a1, a2, rfl⟩ := h
      obtain ⟨N, b1, rfl⟩ := h'
      rw [vote_near a1 (a2.trans hp) b1]
  · rw [if_neg hc] at h h'
    rw [h, h']

/-- Rows, and a point in the first new block. -/
structure XIn (base : Nat) (w W : World) (v : Value) (l : List Row) (x : Row) : Prop where
  ro : RIn base W v l
  bx : Blk W w.heap.size 28 #[.int .i64 x.a, .int .i64 x.b, .int .i64 x.c]
  kp : Keep No w W
theorem XIn.new_ {base : Nat} {w W W' : World} {v : Value} {l : List Row} {x : Row} (h : XIn base w W v l x) (hk : Keep No W W') : XIn base w W' v l x := ⟨h.ro.new_ hk, h.bx.keep hk (fun y => y), h.kp.trans hk (fun _ y => y.elim)⟩
set_option maxHeartbeats 1000000 in
set_option maxRecDepth 100000 in
theorem rvote_good {base : Nat} {w : World} {v : Value} {l : List Row} (x : Row) (k : Int) (h : RIn base w v l) (hb : base ≤ w.heap.size) (hok : ∀ r ∈ l, okRow r) (hl : l.length ≤ 500) (hx : okPt x) (hk1 : 1 ≤ k) (hkm : k < 9223372036854775808) (h0 : 0 < l.length) :
    Calls Tryz.prog 18 #[v, ptV x, .int .i64 k] w fun e w' => ∃ N, NearL x l N ∧ e = .returned (.tuple #[.int .i64 (bestOf (N.take k.toNat)), .int .i64 0]) ∧ Keep No w w' := by
  have B0 := Blk.new w 28 #[.int .i64 x.a, .int .i64 x.b, .int .i64 x.c]
  have k0 := (Keep.refl No w).alloc (.cells #[.int .i64 x.a, .int .i64 x.b, .int .i64 x.c] 28)
  have f0 := B0.cell 0
  have f1 := B0.cell 1
  have f2 := B0.cell 2
  simp only [List.getElem?_toArray, List.getElem?_cons_zero, List.getElem?_cons_succ] at f0 f1 f2
  have HP := Lib.hid (fun W => point_any x.a x.b x.c W)
  have H0 := Lib.hid (show XIn base w _ v l x from ⟨h.new_ k0, B0, k0⟩)
  rw [decide_eq_true (show okX x.a ∧ okX x.b ∧ okX x.c from hx)] at HP
  have HO := Lib.hid (show _ ∧ _ ∧ _ ∧ _ from ⟨hok, hl, hx, hb⟩)
  obtain ⟨A, c, rfl, hc, _⟩ := h
  have hlen : (l.length == 0) = false := beq_eq_false_iff_ne.2 (by omega)
  have hlen' : ((l.length : Int) == 0) = false := beq_eq_false_iff_ne.2 (by omega)
  have hk1' : decide (k < 1) = false := decide_eq_false (by omega)
  have HKK := Lib.hid (show _ ∧ _ ∧ _ from ⟨hk1, hkm, h0⟩)
  clear B0 k0 hok hx hb
  unfold ptV
  go_enter Tryz.func18, Tryz.ntmps18
  go_wp2_with fail
  generalize w.alloc (.cells #[.int .i64 x.a, .int .i64 x.b, .int .i64 x.c] 28) = w1 at *
  refine (HP.out _).mono ?_
  rintro e w2 ⟨rfl, hk2⟩
  have H2 := Lib.hid (H0.out.new_ hk2)
  clear hk2 HP H0 f0 f1 f2
  have f0 := H2.out.bx.cell 0
  have f1 := H2.out.bx.cell 1
  have f2 := H2.out.bx.cell 2
  simp only [List.getElem?_toArray, List.getElem?_cons_zero, List.getElem?_cons_succ] at f0 f1 f2
  have HN := Lib.hid (rnear_any x H2.out.ro (Nat.le_trans HO.out.2.2.2 H2.out.kp.size) (by omega) HO.out.1 HO.out.2.2.1)
  unfold ptV at HN
  go_wp2_with fail
  refine HN.out.mono ?_
  rintro e w3 ⟨v3, N, rfl, hp, hpw, hown, hk3⟩
  obtain ⟨A3, c3, rfl, hc3⟩ := own_shape hown
  have hNl := hp.length_eq
  have HNL := Lib.hid (show NearL x l N from ⟨hp, hpw⟩)
  have HR3 := Lib.hid (show RowsIn 0 w3 A3 N from Reads.of_own hown rfl)
  have HK3 := Lib.hid (H2.out.kp.trans hk3 (fun _ y => y.elim))
  obtain ⟨f, hf⟩ : ∃ f, f = min k.toNat N.length := ⟨_, rfl⟩
  have hmin : min k (N.length : Int) = (f : Int) := by have := HKK.out; omega
  have hf1 : 1 ≤ f := by have := HKK.out; omega
  have hf5 : f ≤ N.length := by omega
  have hN5 : N.length ≤ 500 := by omega
  have hsl := row_hi (A := A3) (n := N.length) (c := c3) (f := f) (by omega)
  have HT := Lib.hid (show N.take k.toNat = N.take f from by
    rw [hf, Nat.min_def]
    split
    · rfl
    · rw [List.take_of_length_le (by omega), List.take_length])
  clear hp hpw hown hk3 hf H2 HN f0 f1 f2 hNl
  go_wp2_with fail
  have HRT := Lib.hid (show RIn 0 w3 (.slice A3 f c3) (N.take f) from ⟨A3, c3, by rw [List.length_take, Nat.min_eq_left hf5], by rw [List.length_take]; omega, by
    unfold RowsIn
    rw [List.length_take, Nat.min_eq_left hf5]
    exact rrows_take HR3.out hf5⟩)
  have HOT := Lib.hid (show ∀ r ∈ N.take f, okRow r from fun r hr => HO.out.1 r (HNL.out.1.mem_iff.1 (List.mem_of_mem_take hr)))
  obtain ⟨T, hT⟩ : ∃ T, T = N.take f := ⟨_, rfl⟩
  have hTl : T.length = f := by rw [hT, List.length_take]; omega
  rw [← hT] at HRT HOT HT
  have HC := Lib.hid (rcounts_in HRT.out (Nat.zero_le _) HOT.out (by omega))
  have hc5 : ∀ i, cnt8 T i ≤ 500 := fun i => Nat.le_trans (cntL_le _ _) (by omega)
  have HC5 := Lib.hid hc5
  clear hT hsl hmin HR3
  have HFN := Lib.hid (show ∀ lab : Nat, cnt8 T lab = cntL T (lab : Nat) from fun _ => rfl)
  generalize cnt8 T = g8 at *
  unfold labV at HC
  refine HC.out.mono ?_
  rintro e w4 ⟨rfl, hk4⟩
  have H4 := Lib.hid (RC8.made g8 (Keep.refl No w4))
  have HK4 := Lib.hid hk4
  have HRT4 := Lib.hid (HRT.out.new_ (hk4.alloc (.cells #[.int .i64 (g8 0 : Nat), .int .i64 (g8 1 : Nat), .int .i64 (g8 2 : Nat), .int .i64 (g8 3 : Nat), .int .i64 (g8 4 : Nat), .int .i64 (g8 5 : Nat), .int .i64 (g8 6 : Nat), .int .i64 (g8 7 : Nat)] 62)))
  clear hk4 HC HRT hc5
  go_upto_region 9 with fail
  generalize w4.alloc (.cells #[.int .i64 (g8 0 : Nat), .int .i64 (g8 1 : Nat), .int .i64 (g8 2 : Nat), .int .i64 (g8 3 : Nat), .int .i64 (g8 4 : Nat), .int .i64 (g8 5 : Nat), .int .i64 (g8 6 : Nat), .int .i64 (g8 7 : Nat)] 62) = w5 at *
  generalize w4.heap.size = gc at *
  obtain ⟨A5, c5, e5, _, hR5⟩ := HRT4.out
  injection e5 with e5 en ec
  clear en
  subst e5
  subst ec
  obtain ⟨ad, hA, _, _, _, _, eL⟩ := hR5.at_ (k := 0) (by omega)
  subst hA
  have hz : ad.add (0 * 4) = ad := by rw [Nat.zero_mul]; rfl
  rw [hz] at eL
  clear hR5 hz
  have HB0 := Lib.hid (bestOf_all (T := T) (by omega))
  obtain ⟨lab, hlab⟩ : ∃ lab : Nat, T[0].l = lab := ⟨T[0].l.toNat, by have := (HOT.out _ (List.getElem_mem (show 0 < T.length by omega))).2.2.2.1; omega⟩
  have hl8 : lab < 8 := by have := (HOT.out _ (List.getElem_mem (show 0 < T.length by omega))).2.2.2.2; omega
  rw [hlab] at eL HB0
  have HLB := Lib.hid hlab
  clear hlab
  have jn : (0 : Int) < (f : Int) := by omega
  have jn' : 0 < f := by omega
  go_wp2_with fail
  clear eL jn
  have HS0 := Lib.hid (show (lab : Int) = bestAll T (lab : Int) (T.take 1) from by
    have e : T.take 1 = [] ++ [T[0]'(by omega)] := by
      match T, hTl, jn' with
      | r :: T, _, _ => rfl
      | [], h, h2 => simp at h; omega
    rw [e, bestAll_push, HLB.out]
    unfold bestAll bestStep
    simp)
  go_loopg [11, 12] f (fun kx s11 s12 wr => ∃ i lb : Nat, s12 = .int .i64 i ∧ 1 ≤ i ∧ i ≤ f ∧ f ≤ i + kx ∧ s11 = .int .i64 lb ∧ lb < 8 ∧ Hid ((lb : Int) = bestAll T (lab : Int) (T.take i)) ∧ Hid (RC8 w4 wr gc g8) ∧ Hid (RIn 0 wr (.slice (some ad) T.length c3) T))
  case atStart => exact ⟨1, lab, rfl, by omega, by omega, by omega, rfl, hl8, HS0, H4, by rw [hTl]; exact HRT4⟩
  case round =>
    clear HS0 H4 HRT4
    obtain ⟨i, lb, rfl, hi1, hif, hikx, rfl, hlb, HL, H5, HR⟩ := hrel
    have j0 : (0 : Int) ≤ (i : Int) := by omega
    by_cases hlt : i < f
    · have j1 : (i : Int) < (f : Int) := by omega
      have hgd : decide ((i : Int) < (f : Int)) = true := decide_eq_true j1
      obtain ⟨A6, c6, e6, _, hR6⟩ := HR.out
      injection e6 with e6 en ec
      clear en
      subst e6
      subst ec
      obtain ⟨ad6, hA6, _, _, _, _, eL⟩ := hR6.at_ (k := i) (by omega)
      injection hA6 with hA6
      subst hA6
      have hoki := HOT.out _ (List.getElem_mem (show i < T.length by omega))
      have htk : T.take i ++ [T[i]'(by omega)] = T.take (i + 1) := List.take_append_getElem (by omega)
      obtain ⟨li, hli⟩ : ∃ li : Nat, (T[i]'(by omega)).l = li := ⟨(T[i]'(by omega)).l.toNat, by have := hoki.2.2.2.1; omega⟩
      have hli8 : li < 8 := by have := hoki.2.2.2.2; omega
      rw [hli] at eL
      have f0 := H5.out.at_ lb hlb
      have f1 := H5.out.at_ li hli8
      have HP2 := Lib.hid (show bestAll T (lab : Int) (T.take (i + 1)) = if g8 lb < g8 li then (li : Int) else (lb : Int) from by
        rw [← htk, bestAll_push, ← HL.out, hli]
        unfold bestStep
        rw [← HFN.out, ← HFN.out])
      have i0 : (0 : Int) ≤ (lb : Int) := by omega
      have i1 : (lb : Int) < 8 := by omega
      have i2 : (0 : Int) ≤ (li : Int) := by omega
      have i3 : (li : Int) < 8 := by omega
      clear hR6 hoki htk hli HL
      by_cases hgt : g8 lb < g8 li
      · have hg : decide ((g8 lb : Int) < (g8 li : Int)) = true := decide_eq_true (by omega)
        have hg2 : decide (g8 lb < g8 li) = true := decide_eq_true hgt
        rw [if_pos hgt] at HP2
        clear hgt
        go_wp2_with fail
        go_quiet (fail)
        go_wp2_with fail
        go_roundg (f - (i + 1))
        case measure => omega
        case rel => exact ⟨i + 1, li, by go_num, by omega, by omega, by omega, rfl, hli8, Lib.hid HP2.out.symm, Lib.hid (H5.out.new_ ((Keep.refl No _).drewN _)), Lib.hid (HR.out.new_ ((Keep.refl No _).drewN _))⟩
      · have hg : decide ((g8 lb : Int) < (g8 li : Int)) = false := decide_eq_false (by omega)
        have hg2 : decide (g8 lb < g8 li) = false := decide_eq_false hgt
        rw [if_neg hgt] at HP2
        clear hgt
        go_wp2_with fail
        go_quiet (fail)
        go_wp2_with fail
        go_roundg (f - (i + 1))
        case measure => omega
        case rel => exact ⟨i + 1, lb, by go_num, by omega, by omega, by omega, rfl, hlb, Lib.hid HP2.out.symm, Lib.hid (H5.out.new_ ((Keep.refl No _).drewN _)), Lib.hid (HR.out.new_ ((Keep.refl No _).drewN _))⟩
    · obtain rfl : i = f := by omega
      have hgd : decide ((i : Int) < (i : Int)) = false := decide_eq_false (by omega)
      have HE := Lib.hid (show (lb : Int) = bestOf (N.take k.toNat) from by
        rw [HT.out, HB0.out, HL.out, List.take_of_length_le (by omega)])
      clear HL
      go_wp2_with fail
      go_ret2
      refine ⟨N, HNL.out, ?_, HK3.out.trans (HK4.out.trans H5.out.kp (fun _ y => y.elim)) (fun _ y => y.elim)⟩
      rw [← HE.out]
      rfl

set_option maxHeartbeats 400000 in
theorem rvote_none {w : World} {A : Option Addr} {c : Nat} (x : Row) (k : Int) (hx : okPt x) (hk1 : 1 ≤ k) :
    Calls Tryz.prog 18 #[.slice A 0 c, ptV x, .int .i64 k] w fun e w' => e = .returned (.tuple #[.int .i64 0, .int .i64 3]) ∧ Keep No w w' := by
  have B0 := Blk.new w 28 #[.int .i64 x.a, .int .i64 x.b, .int .i64 x.c]
  have k0 := (Keep.refl No w).alloc (.cells #[.int .i64 x.a, .int .i64 x.b, .int .i64 x.c] 28)
  have f0 := B0.cell 0
  have f1 := B0.cell 1
  have f2 := B0.cell 2
  simp only [List.getElem?_toArray, List.getElem?_cons_zero, List.getElem?_cons_succ] at f0 f1 f2
  have HP := Lib.hid (fun W => point_any x.a x.b x.c W)
  have HK := Lib.hid k0
  clear B0 k0
  rw [decide_eq_true (show okX x.a ∧ okX x.b ∧ okX x.c from hx)] at HP
  have hk1' : decide (k < 1) = false := decide_eq_false (by omega)
  have hk2 : ¬ k < 1 := by omega
  clear hx
  unfold ptV
  go_enter Tryz.func18, Tryz.ntmps18
  go_wp2_with fail
  generalize w.alloc (.cells #[.int .i64 x.a, .int .i64 x.b, .int .i64 x.c] 28) = w1 at *
  refine (HP.out _).mono ?_
  rintro e w2 ⟨rfl, hk2⟩
  have HK2 := Lib.hid (HK.out.trans hk2 (fun _ y => y.elim))
  clear hk2 HP HK f0 f1 f2
  go_wp2_with fail
  go_ret2
  exact ⟨rfl, HK2.out⟩
set_option maxHeartbeats 400000 in
theorem rvote_bad {w : World} (v : Value) (x : Row) (k : Int) (h : ¬ (okPt x ∧ 1 ≤ k)) :
    Calls Tryz.prog 18 #[v, ptV x, .int .i64 k] w fun e w' => e = .returned (.tuple #[.int .i64 0, .int .i64 1]) ∧ Keep No w w' := by
  have B0 := Blk.new w 28 #[.int .i64 x.a, .int .i64 x.b, .int .i64 x.c]
  have k0 := (Keep.refl No w).alloc (.cells #[.int .i64 x.a, .int .i64 x.b, .int .i64 x.c] 28)
  have f0 := B0.cell 0
  have f1 := B0.cell 1
  have f2 := B0.cell 2
  simp only [List.getElem?_toArray, List.getElem?_cons_zero, List.getElem?_cons_succ] at f0 f1 f2
  have HP := Lib.hid (fun W => point_any x.a x.b x.c W)
  have HK := Lib.hid k0
  clear B0 k0
  by_cases hx : okPt x
  · rw [decide_eq_true (show okX x.a ∧ okX x.b ∧ okX x.c from hx)] at HP
    have hk2 : k < 1 := by
      refine Decidable.byContradiction fun hn => h ⟨hx, by omega⟩
    have hk1' : decide (k < 1) = true := decide_eq_true hk2
    clear hx h
    unfold ptV
    go_enter Tryz.func18, Tryz.ntmps18
    go_wp2_with fail
    generalize w.alloc (.cells #[.int .i64 x.a, .int .i64 x.b, .int .i64 x.c] 28) = w1 at *
    refine (HP.out _).mono ?_
    rintro e w2 ⟨rfl, hk2⟩
    have HK2 := Lib.hid (HK.out.trans hk2 (fun _ y => y.elim))
    clear hk2 HP HK f0 f1 f2
    go_wp2_with fail
    go_ret2
    exact ⟨rfl, HK2.out⟩
  · rw [decide_eq_false (show ¬ (okX x.a ∧ okX x.b ∧ okX x.c) from hx)] at HP
    clear hx h
    unfold ptV
    go_enter Tryz.func18, Tryz.ntmps18
    go_wp2_with fail
    generalize w.alloc (.cells #[.int .i64 x.a, .int .i64 x.b, .int .i64 x.c] 28) = w1 at *
    refine (HP.out _).mono ?_
    rintro e w2 ⟨rfl, hk2⟩
    have HK2 := Lib.hid (HK.out.trans hk2 (fun _ y => y.elim))
    clear hk2 HP HK f0 f1 f2
    go_wp2_with fail
    go_ret2
    exact ⟨rfl, HK2.out⟩
theorem rvote_any {base : Nat} {w : World} {v : Value} {l : List Row} (x : Row) (k : Int) (h : RIn base w v l) (hb : base ≤ w.heap.size) (hok : ∀ r ∈ l, okRow r) (hl : l.length ≤ 500) (hkm : k < 9223372036854775808) :
    Calls Tryz.prog 18 #[v, ptV x, .int .i64 k] w fun e w' => RVote x k l e ∧ Keep No w w' := by
  by_cases hc : okPt x ∧ 1 ≤ k
  · by_cases h0 : l.length = 0
    · obtain ⟨A, c, rfl, _⟩ := h
      rw [h0]
      exact (rvote_none x k hc.1 hc.2).mono fun e w' h2 => ⟨by unfold RVote; rw [if_pos hc, if_pos h0]; exact h2.1, h2.2⟩
    · exact (rvote_good x k h hb hok hl hc.1 hc.2 hkm (by omega)).mono fun e w' ⟨N, h1, h2, h3⟩ => ⟨by unfold RVote; rw [if_pos hc, if_neg h0]; exact ⟨N, h1, h2⟩, h3⟩
  · exact (rvote_bad v x k hc).mono fun e w' h2 => ⟨by unfold RVote; rw [if_neg hc]; exact h2.1, h2.2⟩
end Go.Proofs.YtgabidgpngiecaaGreat
