/- Contracts of the reference's Drop and Fits. Conditions: each names its own. -/
import Derived.Test.YtdmckjojeddaaaaR1
import Derived.Test.YtdmckjojeddaaaaX1
namespace Go.Proofs.Ytdmckjojeddaaaa
open Go.RowKit Go.Proofs.YtdmckjojeddaaaaKit Go.Proofs.YtdmckjojeddaaaaPlain

/-- A result that is a row of pairs. -/
def PairsGot (base : Nat) (w : World) (l : List Pair) (e : Ending) (w' : World) : Prop := ∃ A c, e = .returned (.slice A l.length c) ∧ l.length ≤ c ∧ Pairs base w' A l.length l ∧ Keep No w w'
theorem PairsRet.got {base : Nat} {w w' : World} {l : List Pair} {e : Ending} (h : PairsRet base w l e w') : PairsGot base w l e w' := by
  obtain ⟨A, c, rfl, hc, ho⟩ := h
  exact ⟨A, c, rfl, hc, ho.pairs, ho.keepTo⟩

set_option maxHeartbeats 2000000 in
set_option maxRecDepth 100000 in
theorem rdrop_any {base : Nat} (L A : Option Addr) (m d n c : Nat) (l : List Pair) (key : List UInt8) (w : World) (hl : Pairs base w L m l) (hk : Bytes base w A n key)
    (hs : Small l) (hn : n ≤ 1000000) (hm : m ≤ 100000) (hmd : m ≤ d) (hb : base ≤ w.heap.size) :
    Calls Try.prog 93 #[.slice L m d, .slice A n c] w (PairsGot base w (dropL l key)) := by
  obtain ⟨i0, hi0, hz0, hz1, hz2⟩ := info_parts info_pair
  have HH := Lib.hid (rhas_any (b1 := base) (b2 := base) L A m d n c l key w hl hk hs hn (by omega))
  have HR := Lib.hid (fun (w1 : World) hl hk => rrank_any (b1 := base) (b2 := base) L A m d n c l key w1 hl hk hs hn (by omega))
  obtain rfl := hk.len
  obtain rfl := hl.len (by omega)
  have hrk := rank_le key l
  have HL := Lib.hid hl
  have HK := Lib.hid hk
  cases hh : hasL key l with
  | false =>
    have HP := Lib.hid (show dropL l key = l by unfold dropL; rw [if_neg (by rw [hh]; decide)])
    clear hl hk hs HR hrk
    rw [hh] at HH
    go_enter Try.func93, Try.ntmps93
    go_wp2_with (go_at_call 51; refine HH.out.mono ?_; rintro e w1 ⟨rfl, dq, rfl⟩)
    go_ret
    rw [HP.out]
    exact ⟨L, d, rfl, hmd, HL.out.new_ ((Keep.refl No w).drewN dq), (Keep.refl No w).drewN dq⟩
  | true =>
    have HP := Lib.hid (show dropL l key = l.take (rank key l) ++ l.drop (rank key l + 1) by unfold dropL; rw [if_pos hh])
    have hrk2 := hasL_rank hh
    generalize dropL l key = out at *
    rw [hh] at HH
    generalize rank key l = r at *
    clear hl hk hs hh
    go_enter Try.func93, Try.ntmps93
    go_wp2_with (go_at_call 51; refine HH.out.mono ?_; rintro e w1 ⟨rfl, dq, rfl⟩)
    refine (HR.out (w.drewN dq) (HL.out.new_ ((Keep.refl No w).drewN dq)) (HK.out.drewN dq)).mono ?_
    rintro e w1 ⟨rfl, dp, rfl⟩
    have hd0 := Lib.hid ((Keep.refl No w).drewN (dq + dp))
    obtain ⟨ys, hr1, hf1⟩ := (pairs_cut (HL.out.new_ hd0.out) hrk hmd rfl).1
    have hlt1 : (l.take r).length = r := by rw [List.length_take]; omega
    have HT1 := Lib.hid (show _ ∧ _ from ⟨hf1, hlt1⟩)
    have HR1 := Lib.hid hr1
    have p1 := pairs_one hf1
    clear hr1 hf1 hlt1
    go_wp2_with (first
      | (at_builtin; refine wpList_append_any _ rfl (.tmp 15) (.tmp 18) _ rfl w.heap.size 82 i0 _ 2 48 Try.underlying35 hi0 hz0 hz1 hz2 rfl (by omega) _ 0 [] rfl (World.ownsRow_nil _ _ _ _) base L r d ys rfl HR1.out p1 (by simp only [maxLen]; omega) (by omega) (by have := hd0.out.size; exact this) ?_; intro v2 w2 hown2 hg2 hat2; have O2 := OwnP.push (base := base) (l := []) hb (World.ownsRow_nil _ _ _ _) Flat.nil hd0.out HT1.out.1 HT1.out.2 hown2 hg2; clear hown2 hg2 hat2 HR1 HT1 p1; rw [List.nil_append] at O2; have HO2 := Lib.hid O2; obtain ⟨zs, hr7, hf7⟩ := (pairs_cut (k := r + 1) (HL.out.new_ O2.keepTo) hrk2 hmd rfl).2; obtain ⟨xs6, ho6, hf6, hk6⟩ := O2; have H7 := Lib.hid (show _ ∧ _ ∧ _ ∧ _ ∧ _ from ⟨hr7, hf7, ho6, hf6, hk6⟩); clear hr7 hf7 ho6 hf6 hk6; have l4 : (l.take r).length ≤ 100000 := by (rw [List.length_take]; omega))
      | (at_builtin; refine wpList_append_any _ rfl (.tmp 20) (.tmp 24) _ rfl w.heap.size 82 i0 _ 2 48 Try.underlying35 hi0 hz0 hz1 hz2 rfl (by omega) _ _ _ rfl H7.out.2.2.1 base _ _ _ _ rfl H7.out.1 (pairs_one H7.out.2.1) (by simp only [maxLen]; omega) (by omega) H7.out.2.2.2.2.size ?_; intro v8 w8 hown8 hg8 hat8; have O8 := OwnP.push (base := base) hb H7.out.2.2.1 H7.out.2.2.2.1 H7.out.2.2.2.2 H7.out.2.1 (List.length_drop ..) hown8 hg8; clear hown8 hg8 hat8 H7))
    all_goals
      go_ret
      rw [HP.out]
      exact O8.ret.got

theorem lastKey_get {l : PairL} {k : Nat} (h : l.length = k + 1) : lastKey l = (l[k]'(by omega)).1 := by
  induction l generalizing k with
  | nil => simp at h
  | cons p l ih =>
    cases l with
    | nil => simp at h; subst h; rfl
    | cons q l =>
      obtain ⟨j, rfl⟩ : ∃ j, k = j + 1 := ⟨k - 1, by simp at h; omega⟩
      rw [show lastKey (p :: q :: l) = lastKey (q :: l) from rfl, ih (k := j) (by simp at h ⊢; omega)]
      rfl
theorem firstKey_get {l : PairL} (h : 0 < l.length) : firstKey l = (l[0]'h).1 := by
  cases l with
  | nil => simp at h
  | cons p l => rfl

set_option maxHeartbeats 2000000 in
set_option maxRecDepth 100000 in
theorem rfits_any {b1 b2 : Nat} (A B : Option Addr) (m d m' d' : Nat) (la lb : List Pair) (w : World) (ha : Pairs b1 w A m la) (hb : Pairs b2 w B m' lb) (hs : Small la) (hs' : Small lb) (hm : la.length + lb.length ≤ 90000) :
    Calls Try.prog 102 #[.slice A m d, .slice B m' d'] w fun e w' => e = .returned (.int .i64 (fitsL la lb)) ∧ Drawn w w' := by
  obtain rfl := ha.len (by omega)
  obtain rfl := hb.len (by omega)
  have s3 : decide (100000 < la.length + lb.length) = false := decide_eq_false (by omega)
  have s4 : decide ((100000 : Int) < (la.length : Int) + (lb.length : Int)) = false := decide_eq_false (by omega)
  rcases Nat.eq_zero_or_pos la.length with h0 | h0
  · have hF := Lib.hid (fits_or (b := lb) (.inl (List.length_eq_zero_iff.1 h0)))
    have q1 : decide (0 < la.length) = false := decide_eq_false (by omega)
    have q2 : decide ((0 : Int) < (la.length : Int)) = false := decide_eq_false (by omega)
    have q5 : ¬ 0 < la.length := by omega
    generalize fitsL la lb = f at *
    clear ha hb hs hs' h0
    go_enter Try.func102, Try.ntmps102
    go_wp2_with fail
    go_quiet (fail)
    go_wp2
    go_ret
    exact ⟨ret_u64 hF.out.symm, (Drawn.refl w).step _⟩
  · have q5 : 0 < la.length := h0
    have q2 : decide ((0 : Int) < (la.length : Int)) = true := decide_eq_true (by omega)
    have q1 : decide (0 < la.length) = true := decide_eq_true h0
    rcases Nat.eq_zero_or_pos lb.length with h1 | h1
    · have hF := Lib.hid (fits_or (a := la) (.inr (.inl (List.length_eq_zero_iff.1 h1))))
      have r1 : decide (0 < lb.length) = false := decide_eq_false (by omega)
      have r2 : decide ((0 : Int) < (lb.length : Int)) = false := decide_eq_false (by omega)
      have r5 : ¬ 0 < lb.length := by omega
      generalize fitsL la lb = f at *
      clear ha hb hs hs' h1
      go_enter Try.func102, Try.ntmps102
      go_wp2_with fail
      go_quiet (fail)
      go_wp2
      go_ret
      exact ⟨ret_u64 hF.out.symm, (Drawn.refl w).step _⟩
    · obtain ⟨k, hk⟩ : ∃ k, la.length = k + 1 := ⟨la.length - 1, by omega⟩
      have hkl : k < la.length := by omega
      obtain ⟨ad, A1, c1, A2, c2, rfl, him, e0, _, b1', _⟩ := ha.at_ hkl
      obtain ⟨ad', A3, c3, A4, c4, rfl, him', g0, _, b3', _⟩ := hb.at_ h1
      have hs1 := (hs _ (List.getElem_mem hkl)).1
      have hs3 := (hs' _ (List.getElem_mem h1)).1
      have HC := Lib.hid (fun q => rcompare_any A1 A3 _ c1 _ c3 la[k].1 lb[0].1 (w.drewN q) (b1'.drewN q) (b3'.drewN q) (by omega) (by omega))
      have HF := Lib.hid (show fitsL la lb = if Lt la[k].1 lb[0].1 then 0 else 7 by
        unfold fitsL
        rw [lastKey_get hk, firstKey_get h1]
        by_cases hlt : Lt la[k].1 lb[0].1
        · rw [if_neg (fun h => h.2.2 hlt), if_pos hlt]
        · rw [if_pos ⟨fun e => by rw [e] at h0; simp at h0, fun e => by rw [e] at h1; simp at h1, hlt⟩, if_neg hlt])
      have r5 : 0 < lb.length := h1
      have r2 : decide ((0 : Int) < (lb.length : Int)) = true := decide_eq_true (by omega)
      have r1 : decide (0 < lb.length) = true := decide_eq_true h1
      have hsub : ((la.length : Nat) : Int) - 1 = ((k : Nat) : Int) := by omega
      have i0 : (0 : Int) ≤ (k : Int) := by omega
      have i1 : (k : Int) < (la.length : Int) := by omega
      rw [Nat.zero_mul] at g0
      have g1 : w.cell? ad' = _ := (show w.cell? (ad'.add 0) = w.cell? ad' by simp [Addr.add]).symm.trans g0
      have hwr : IntKind.i64.wrap (k : Int) = (k : Int) := wrap_i64_fit (by omega) (by omega)
      have HK := Lib.hid hk
      generalize la[k] = p at *
      generalize lb[0] = p' at *
      generalize fitsL la lb = f at *
      clear him him' ha hb hs hs' b1' b3' hk
      by_cases hlt : rcmp p.1 p'.1 < 0
      · have hF := Lib.hid (HF.out.trans (if_pos (rcmp_neg.1 hlt)))
        generalize rcmp p.1 p'.1 = z at *
        have t1 : ¬ (0 : Int) ≤ z := by omega
        have t2 : decide ((0 : Int) ≤ z) = false := decide_eq_false t1
        clear HF
        go_enter Try.func102, Try.ntmps102
        go_wp2_with fail
        go_quiet ((go_at_call 24; exact quiet_drawn2 (HC.out _)))
        go_wp2
        go_ret
        exact ⟨ret_u64 hF.out.symm, (Drawn.refl w).step _⟩
      · have hF := Lib.hid (HF.out.trans (if_neg (fun h => hlt (rcmp_neg.2 h))))
        generalize rcmp p.1 p'.1 = z at *
        have t1 : (0 : Int) ≤ z := by omega
        have t2 : decide ((0 : Int) ≤ z) = true := decide_eq_true t1
        clear HF
        go_enter Try.func102, Try.ntmps102
        go_wp2_with fail
        go_quiet ((go_at_call 24; exact quiet_drawn2 (HC.out _)))
        go_wp2
        go_ret
        exact ⟨ret_u64 hF.out.symm, (Drawn.refl w).step _⟩
end Go.Proofs.Ytdmckjojeddaaaa
