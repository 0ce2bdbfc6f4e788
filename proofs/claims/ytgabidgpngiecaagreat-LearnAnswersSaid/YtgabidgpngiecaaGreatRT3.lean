/- Plain: pure rows by squares. The reference's grown and Tree. Conditions: each names its own. -/
import Derived.Test.YtgabidgpngiecaaGreatRT2
namespace Go.Proofs.YtgabidgpngiecaaGreat
open Go.RowKit Go.Proofs.YtgabidgpngiecaaGreatKit Go.Proofs.YtgabidgpngiecaaGreatPlain

theorem totC_ge (c : Nat → Nat) : ∀ (k i : Nat), i < k → (c i : Int) ≤ totC c k
  | 0, i, h => absurd h (by omega)
  | k + 1, i, h => by
    rw [totC]
    have h0 : 0 ≤ totC c k := by
      clear h
      induction k with
      | zero => exact Int.le_refl 0
      | succ k ih => rw [totC]; omega
    by_cases hik : i = k
    · subst hik; omega
    · have := totC_ge c k i (by omega)
      omega
theorem tot_nn (c : Nat → Nat) : ∀ k, 0 ≤ totC c k
  | 0 => Int.le_refl 0
  | k + 1 => by rw [totC]; have := tot_nn c k; omega
theorem sq_gap (c : Nat → Nat) : ∀ k, sqC c k ≤ totC c k * totC c k ∧ (sqC c k = totC c k * totC c k → ∀ i, i < k → totC c i * (c i : Int) = 0)
  | 0 => ⟨Int.le_refl 0, fun _ i h => absurd h (by omega)⟩
  | k + 1 => by
    obtain ⟨h1, h2⟩ := sq_gap c k
    have h3 : 0 ≤ totC c k * (c k : Int) := Int.mul_nonneg (tot_nn c k) (by omega)
    have e : totC c (k + 1) * totC c (k + 1) = totC c k * totC c k + 2 * (totC c k * (c k : Int)) + (c k : Int) * (c k : Int) := by
      rw [totC]; grind
    rw [e, sqC]
    refine ⟨by omega, fun h i hi => ?_⟩
    by_cases hik : i = k
    · subst hik; omega
    · exact h2 (by omega) i (by omega)
theorem pure_sq (c : Nat → Nat) : PureC c ↔ sqC c 8 = totC c 8 * totC c 8 := by
  have hm8 := mostC_lt8 c
  constructor
  · intro h
    have hz : ∀ i, i < 8 → i ≠ mostC c 8 → c i = 0 := fun i hi hne => by
      have := h i hi
      rw [if_neg hne] at this
      omega
    have ht := totC_one hm8 hz
    have hs : ∀ k, k ≤ 8 → sqC c k = if mostC c 8 < k then (c (mostC c 8) : Int) * (c (mostC c 8) : Int) else 0 := by
      intro k
      induction k with
      | zero => intro _; rw [if_neg (by omega)]; rfl
      | succ k ih =>
        intro hk
        rw [sqC, ih (by omega)]
        by_cases h1 : mostC c 8 < k
        · rw [if_pos h1, if_pos (by omega), hz k (by omega) (by omega)]; simp
        · rw [if_neg h1]
          by_cases h2 : mostC c 8 = k
          · rw [if_pos (by omega), ← h2]; omega
          · rw [if_neg (by omega), hz k (by omega) (fun e => h2 e.symm)]; simp
    rw [hs 8 (Nat.le_refl _), if_pos hm8, ht]
  · intro h
    have hg := (sq_gap c 8).2 h
    have hz : ∀ i, i < 8 → i ≠ mostC c 8 → c i = 0 := fun i hi hne => by
      have hle := mostC_max (c := c) 8 i hi
      refine Decidable.byContradiction fun hn => ?_
      have hm0 : 0 < c (mostC c 8) := by omega
      rcases Nat.lt_or_gt_of_ne hne with hlt | hgt
      · have h1 := hg (mostC c 8) hm8
        have h2 := totC_ge c (mostC c 8) i hlt
        have h3 := Int.mul_pos (show 0 < totC c (mostC c 8) by omega) (show (0 : Int) < (c (mostC c 8) : Int) by omega)
        omega
      · have h1 := hg i hi
        have h2 := totC_ge c i (mostC c 8) hgt
        have h3 := Int.mul_pos (show 0 < totC c i by omega) (show (0 : Int) < (c i : Int) by omega)
        omega
    have ht := totC_one hm8 hz
    intro i hi
    by_cases he : i = mostC c 8
    · rw [if_pos he, ht, he]
    · rw [if_neg he, hz i hi he]; rfl
theorem pr_three (l : List Row) (c : Nat) (x : Int) : Pr l 3 0 c x ↔ (c < 3 ∧ cand l c x) := by
  unfold Pr
  constructor
  · rintro ⟨h, h1 | ⟨_, j, h1, _⟩⟩
    · exact ⟨h1, h⟩
    · omega
  · rintro ⟨h1, h⟩
    exact ⟨h, .inl h1⟩
theorem best_same {L : List (Row × Nat)} (hL : ∀ p ∈ L, 0 < p.2 ∧ okRow p.1) {s : Cut} (h : Best (expand L) (Pr (expand L) 3 0) s) (h0 : s.ok = false → s.col = 0 ∧ s.cut = 0) : s.col = (bestTo L 3).col ∧ s.cut = (bestTo L 3).cut ∧ s.ok = (bestTo L 3).ok := by
  obtain ⟨h1, h2⟩ := Best.one (h.congr (pr_three (expand L))) (best_to hL 3)
  cases hok : s.ok with
  | true => exact ⟨(h2 hok).1, (h2 hok).2, h1 ▸ hok.symm⟩
  | false =>
    have h3 := best_zero (L := L) 3 (h1 ▸ hok)
    rw [h3]
    exact ⟨(h0 hok).1, (h0 hok).2, rfl⟩
/-- A slice of one branch, just made. -/
theorem b_one {B : Nat} {w : World} (b : Br) (hB : B ≤ w.heap.size) : BOwn B (w.alloc (.cells #[.int .i64 b.col, .int .i64 b.cut, .int .i64 b.low, .int .i64 b.high, .int .i64 b.label, .int .i64 b.rows] 69)) (.slice (some ⟨w.heap.size, 0, none⟩) 1 1) [b] := by
  exact ⟨rfl, .inr ⟨w.heap.size, 1, #[.int .i64 b.col, .int .i64 b.cut, .int .i64 b.low, .int .i64 b.high, .int .i64 b.label, .int .i64 b.rows], rfl, hB, heap_alloc_new w _, Nat.le_refl _, by simp [maxLen], rfl, rfl⟩⟩
theorem low_exp (c : Nat) (x : Int) (L : List (Row × Nat)) : lowC c x (expand L) = expand (lowL c x L) ∧ highC c x (expand L) = expand (highL c x L) := ⟨(expand_lowL c x L).1.symm, (expand_lowL c x L).2.symm⟩
theorem lowL_ok {c : Nat} {x : Int} {L : List (Row × Nat)} (hL : ∀ p ∈ L, 0 < p.2 ∧ okRow p.1) : (∀ p ∈ lowL c x L, 0 < p.2 ∧ okRow p.1) ∧ ∀ p ∈ highL c x L, 0 < p.2 ∧ okRow p.1 :=
  ⟨fun p hp => hL p (List.mem_filter.1 hp).1, fun p hp => hL p (List.mem_filter.1 hp).1⟩

/-- What grown holds behind choose. -/
structure GrS (w W : World) (g9 g10 : Nat) (maj len : Int) (col : Nat) (cut : Int) (ok : Bool) : Prop where
  b9 : Blk W g9 69 #[.int .i64 0, .int .i64 0, .int .i64 (-1), .int .i64 (-1), .int .i64 maj, .int .i64 len]
  b10 : Blk W g10 126 #[.int .i64 (col : Nat), .int .i64 cut, .bool ok]
  kp : Keep No w W
theorem GrS.new_ {w W W' : World} {g9 g10 : Nat} {maj len : Int} {col : Nat} {cut : Int} {ok : Bool} (h : GrS w W g9 g10 maj len col cut ok) (hk : Keep No W W') : GrS w W' g9 g10 maj len col cut ok := ⟨h.b9.keep hk (fun y => y), h.b10.keep hk (fun y => y), h.kp.trans hk (fun _ y => y.elim)⟩
set_option maxHeartbeats 4000000 in
set_option maxRecDepth 100000 in
theorem rgrown_leaf {B : Nat} {w : World} {v : Value} (least : Int) (left : Nat) (L : List (Row × Nat)) (at_ : Nat) (h : RIn B w v (expand L)) (hB : B ≤ w.heap.size) (hL : ∀ p ∈ L, 0 < p.2 ∧ okRow p.1) (hl : (expand L).length ≤ 500) (hleaf : leafL left least L) :
    Calls Tryz.prog 50 #[v, .int .i64 (left : Nat), .int .i64 least, .int .i64 (at_ : Nat)] w fun e w' => ∃ v', e = .returned v' ∧ BOwn w.heap.size w' v' [leafB L] ∧ Keep No w w' := by
  have hlen : (expand L).length = (expand L).length := rfl
  have hok := hok_of hL
  have HMJ := Lib.hid (rmajor_any h hB hok hl)
  have HCH := Lib.hid (fun W (hW : Keep No w W) => rchoose_any (h.new_ hW) hok hl)
  have HSQ := Lib.hid (fun W (hW : Keep No w W) => rsquares_any (h.new_ hW) (Nat.le_trans hB hW.size) hok hl)
  have HTL := Lib.hid (totC_len hok)
  have HBS := Lib.hid (fun s (h1 : Best (expand L) (Pr (expand L) 3 0) s) h0 => best_same hL h1 h0)
  have HLF := Lib.hid (show leafB L = ⟨0, 0, -1, -1, (mostC (cnt8 (expand L)) 8 : Nat), ((expand L).length : Nat)⟩ from by unfold leafB; rw [HTL.out])
  have HRO := Lib.hid h
  obtain ⟨A, c, rfl, hc, _⟩ := h
  have HLL := Lib.hid hleaf
  clear hleaf hlen hok
  unfold leafL at HLL
  rw [HTL.out] at HLL
  generalize hn : (expand L).length = n at *
  have HPQ := Lib.hid (show PureC (cnt8 (expand L)) ↔ sqC (cnt8 (expand L)) 8 = (n : Int) * (n : Int) from by rw [pure_sq, HTL.out])
  have HN := Lib.hid hn
  clear hn
  generalize mostC (cnt8 (expand L)) 8 = maj at *
  obtain ⟨sq, hsq⟩ : ∃ sq, sq = sqC (cnt8 (expand L)) 8 := ⟨_, rfl⟩
  rw [← hsq] at HSQ HPQ
  clear hsq
  go_enter Tryz.func50, Tryz.ntmps50
  go_wp2_with fail
  refine HMJ.out.mono ?_
  rintro e w1 ⟨rfl, hk1⟩
  have HK1 := Lib.hid hk1
  clear hk1 HMJ
  go_upto_region 2 with fail
  have HB9 := Lib.hid (Blk.new w1 69 #[.int .i64 0, .int .i64 0, .int .i64 (-1), .int .i64 (-1), .int .i64 (maj : Nat), .int .i64 (n : Nat)])
  have HK2 := Lib.hid (HK1.out.alloc (.cells #[.int .i64 0, .int .i64 0, .int .i64 (-1), .int .i64 (-1), .int .i64 (maj : Nat), .int .i64 (n : Nat)] 69))
  clear HK1
  generalize w1.alloc (.cells #[.int .i64 0, .int .i64 0, .int .i64 (-1), .int .i64 (-1), .int .i64 (maj : Nat), .int .i64 (n : Nat)] 69) = w2 at *
  generalize w1.heap.size = g9 at *
  go_wp2_with fail
  refine (HCH.out _ HK2.out).mono ?_
  rintro e w3 ⟨s, rfl, hbest, hz, hk3⟩
  obtain ⟨e1, e2, e3⟩ := HBS.out s hbest hz
  obtain ⟨col, cut, sn, sd, okb⟩ := s
  dsimp only at e1 e2 e3 ⊢
  have HE3 := Lib.hid e3
  have HB93 := Lib.hid (HB9.out.keep hk3 (fun y => y))
  have HK3 := Lib.hid (HK2.out.trans hk3 (fun _ y => y.elim))
  clear hbest hz e1 e2 e3 hk3 HCH HB9 HK2 HBS
  go_upto_region 3 with fail
  have HG := Lib.hid (show GrS w (w3.alloc (.cells #[.int .i64 (col : Nat), .int .i64 cut, .bool okb] 126)) g9 w3.heap.size (maj : Nat) (n : Nat) col cut okb from ⟨HB93.out.alloc _, Blk.new w3 _ _, HK3.out.alloc _⟩)
  clear HB93 HK3
  generalize w3.alloc (.cells #[.int .i64 (col : Nat), .int .i64 cut, .bool okb] 126) = w4 at *
  generalize w3.heap.size = g10 at *
  by_cases hl0 : left = 0
  · subst hl0
    have f0 := HG.out.b9.cell 0
    have f1 := HG.out.b9.cell 1
    have f2 := HG.out.b9.cell 2
    have f3 := HG.out.b9.cell 3
    have f4 := HG.out.b9.cell 4
    have f5 := HG.out.b9.cell 5
    have c2 := HG.out.b10.cell 2
    simp only [List.getElem?_toArray, List.getElem?_cons_zero, List.getElem?_cons_succ] at f0 f1 f2 f3 f4 f5 c2
    clear HLL HSQ HE3
    go_wp2_with fail
    go_ret
    refine ⟨_, rfl, ?_, HG.out.kp.alloc _⟩
    rw [HLF.out]
    exact b_one ⟨0, 0, -1, -1, (maj : Nat), (n : Nat)⟩ HG.out.kp.size
  · have d0 : ((left : Int) == 0) = false := beq_eq_false_iff_ne.2 (by omega)
    have d0' : (left == 0) = false := beq_eq_false_iff_ne.2 hl0
    have HL0 := Lib.hid hl0
    clear hl0
    by_cases hlt : (n : Int) < least
    · have d1 : decide ((n : Int) < least) = true := decide_eq_true hlt
      clear hlt HLL HSQ HE3
      have f0 := HG.out.b9.cell 0
      have f1 := HG.out.b9.cell 1
      have f2 := HG.out.b9.cell 2
      have f3 := HG.out.b9.cell 3
      have f4 := HG.out.b9.cell 4
      have f5 := HG.out.b9.cell 5
      have c2 := HG.out.b10.cell 2
      simp only [List.getElem?_toArray, List.getElem?_cons_zero, List.getElem?_cons_succ] at f0 f1 f2 f3 f4 f5 c2
      go_wp2_with fail
      go_ret
      refine ⟨_, rfl, ?_, HG.out.kp.alloc _⟩
      rw [HLF.out]
      exact b_one ⟨0, 0, -1, -1, (maj : Nat), (n : Nat)⟩ HG.out.kp.size
    · have d1 : decide ((n : Int) < least) = false := decide_eq_false hlt
      have HLT := Lib.hid hlt
      clear hlt
      have hnn := mul_in (X := 500) (Y := 500) (x := (n : Int)) (y := (n : Int)) (by omega) (by omega) (by omega) (by omega)
      have q1 : IntKind.i64.wrap ((n : Int) * (n : Int)) = (n : Int) * (n : Int) := fit64 (by omega) (by omega)
      clear hnn
      by_cases hp : sq = (n : Int) * (n : Int)
      · have d2 : (sq == (n : Int) * (n : Int)) = true := beq_iff_eq.2 hp
        clear hp HLL HE3
        go_wp2_with fail
        refine (HSQ.out _ HG.out.kp).mono ?_
        rintro e w5 ⟨rfl, hk5⟩
        have HG5 := Lib.hid (HG.out.new_ hk5)
        clear hk5 HSQ HG
        have f0 := HG5.out.b9.cell 0
        have f1 := HG5.out.b9.cell 1
        have f2 := HG5.out.b9.cell 2
        have f3 := HG5.out.b9.cell 3
        have f4 := HG5.out.b9.cell 4
        have f5 := HG5.out.b9.cell 5
        have c2 := HG5.out.b10.cell 2
        simp only [List.getElem?_toArray, List.getElem?_cons_zero, List.getElem?_cons_succ] at f0 f1 f2 f3 f4 f5 c2
        go_wp2_with fail
        go_ret
        refine ⟨_, rfl, ?_, HG5.out.kp.alloc _⟩
        rw [HLF.out]
        exact b_one ⟨0, 0, -1, -1, (maj : Nat), (n : Nat)⟩ HG5.out.kp.size
      · have d2 : (sq == (n : Int) * (n : Int)) = false := beq_eq_false_iff_ne.2 hp
        have hof : okb = false := by
          rcases HLL.out with h | h | h | h
          · exact absurd h HL0.out
          · exact absurd h HLT.out
          · exact absurd (HPQ.out.1 h) hp
          · rw [HE3.out]; exact h
        subst hof
        clear hp HLL HE3
        go_wp2_with fail
        refine (HSQ.out _ HG.out.kp).mono ?_
        rintro e w5 ⟨rfl, hk5⟩
        have HG5 := Lib.hid (HG.out.new_ hk5)
        clear hk5 HSQ HG
        have f0 := HG5.out.b9.cell 0
        have f1 := HG5.out.b9.cell 1
        have f2 := HG5.out.b9.cell 2
        have f3 := HG5.out.b9.cell 3
        have f4 := HG5.out.b9.cell 4
        have f5 := HG5.out.b9.cell 5
        have c2 := HG5.out.b10.cell 2
        simp only [List.getElem?_toArray, List.getElem?_cons_zero, List.getElem?_cons_succ] at f0 f1 f2 f3 f4 f5 c2
        go_wp2_with fail
        go_ret
        refine ⟨_, rfl, ?_, HG5.out.kp.alloc _⟩
        rw [HLF.out]
        exact b_one ⟨0, 0, -1, -1, (maj : Nat), (n : Nat)⟩ HG5.out.kp.size
end Go.Proofs.YtgabidgpngiecaaGreat

namespace Go.Proofs.YtgabidgpngiecaaGreat
open Go.RowKit Go.Proofs.YtgabidgpngiecaaGreatKit Go.Proofs.YtgabidgpngiecaaGreatPlain

theorem b_push {B : Nat} {w : World} {v : Value} {T U : List Br} {n : Nat} (h : w.ownsRow B 69 6 v (T.length + n) (bcells T ++ bcells U)) (hn : n = U.length) : BOwn B w v (T ++ U) := by
  subst hn
  unfold BOwn
  rw [bcells_append, List.length_append]
  exact h
theorem bcells_one (l : List Br) : ∀ u ∈ bcells l, u.oneCell' = true := by
  intro u hu
  unfold bcells at hu
  obtain ⟨cs, hcs, h1⟩ := List.mem_flatten.1 hu
  obtain ⟨b, _, rfl⟩ := List.mem_map.1 hcs
  simp only [Br.cells, List.mem_cons, List.not_mem_nil, or_false] at h1
  rcases h1 with rfl | rfl | rfl | rfl | rfl | rfl <;> rfl
set_option maxHeartbeats 800000 in
set_option maxRecDepth 100000 in
theorem rgrown_fork {B : Nat} {w : World} {v : Value} (least : Int) (left m : Nat) (L : List (Row × Nat)) (at_ : Nat) (hm : m = left + 1) (h : RIn B w v (expand L)) (hB : B ≤ w.heap.size) (hL : ∀ p ∈ L, 0 < p.2 ∧ okRow p.1) (hl : (expand L).length ≤ 500) (hnl : ¬ leafL m least L) (hm6 : m ≤ 6) (hat : at_ + 2 ^ (m + 1) ≤ 100000)
    (ih : ∀ {w : World} {v : Value} (L' : List (Row × Nat)) (at' : Nat), RIn 0 w v (expand L') → (∀ p ∈ L', 0 < p.2 ∧ okRow p.1) → (expand L').length ≤ 500 → at' + 2 ^ (left + 1) ≤ 100000 →
      Calls Tryz.prog 50 #[v, .int .i64 (left : Nat), .int .i64 least, .int .i64 (at' : Nat)] w fun e w' => ∃ v', e = .returned v' ∧ BOwn w.heap.size w' v' (treeL least left L' at') ∧ Keep No w w') :
    Calls Tryz.prog 50 #[v, .int .i64 (m : Nat), .int .i64 least, .int .i64 (at_ : Nat)] w fun e w' => ∃ v', e = .returned v' ∧ BOwn w.heap.size w' v' (treeL least m L at_) ∧ Keep No w w' := by
  obtain ⟨i0, hi0, hz0, hz1, hz2⟩ := info_parts info_branch
  have HM := Lib.hid hm
  have hm1 : (m : Int) - 1 = (left : Int) := by omega
  have hm0 : 0 < m := by omega
  clear hm
  have hlen : (expand L).length = (expand L).length := rfl
  have hok := hok_of hL
  have HMJ := Lib.hid (rmajor_any h hB hok hl)
  have HCH := Lib.hid (fun W (hW : Keep No w W) => rchoose_any (h.new_ hW) hok hl)
  have HSQ := Lib.hid (fun W (hW : Keep No w W) => rsquares_any (h.new_ hW) (Nat.le_trans hB hW.size) hok hl)
  have HTL := Lib.hid (totC_len hok)
  have HBS := Lib.hid (fun s (h1 : Best (expand L) (Pr (expand L) 3 0) s) h0 => best_same hL h1 h0)
  have HRO := Lib.hid h
  obtain ⟨A, c, rfl, hc, _⟩ := h
  have HLL := Lib.hid hnl
  have HOK := Lib.hid hok
  have HLO := Lib.hid hL
  clear hnl hlen hok
  unfold leafL at HLL
  rw [HTL.out] at HLL
  generalize hn : (expand L).length = n at *
  have HPQ := Lib.hid (show PureC (cnt8 (expand L)) ↔ sqC (cnt8 (expand L)) 8 = (n : Int) * (n : Int) from by rw [pure_sq, HTL.out])
  have HN := Lib.hid hn.symm
  clear hn
  generalize mostC (cnt8 (expand L)) 8 = maj at *
  obtain ⟨sq, hsq⟩ : ∃ sq, sq = sqC (cnt8 (expand L)) 8 := ⟨_, rfl⟩
  rw [← hsq] at HSQ HPQ
  clear hsq
  go_enter Tryz.func50, Tryz.ntmps50
  go_wp2_with fail
  refine HMJ.out.mono ?_
  rintro e w1 ⟨rfl, hk1⟩
  have HK1 := Lib.hid hk1
  clear hk1 HMJ
  go_upto_region 2 with fail
  have HB9 := Lib.hid (Blk.new w1 69 #[.int .i64 0, .int .i64 0, .int .i64 (-1), .int .i64 (-1), .int .i64 (maj : Nat), .int .i64 (n : Nat)])
  have HK2 := Lib.hid (HK1.out.alloc (.cells #[.int .i64 0, .int .i64 0, .int .i64 (-1), .int .i64 (-1), .int .i64 (maj : Nat), .int .i64 (n : Nat)] 69))
  clear HK1
  generalize w1.alloc (.cells #[.int .i64 0, .int .i64 0, .int .i64 (-1), .int .i64 (-1), .int .i64 (maj : Nat), .int .i64 (n : Nat)] 69) = w2 at *
  generalize w1.heap.size = g9 at *
  go_wp2_with fail
  refine (HCH.out _ HK2.out).mono ?_
  rintro e w3 ⟨s, rfl, hbest, hz, hk3⟩
  obtain ⟨e1, e2, e3⟩ := HBS.out s hbest hz
  obtain ⟨col, cut, sn, sd, okb⟩ := s
  dsimp only at e1 e2 e3 ⊢
  have HE := Lib.hid (show _ ∧ _ ∧ _ from ⟨e1, e2, e3⟩)
  have HB93 := Lib.hid (HB9.out.keep hk3 (fun y => y))
  have HK3 := Lib.hid (HK2.out.trans hk3 (fun _ y => y.elim))
  clear hbest hz e1 e2 e3 hk3 HCH HB9 HK2 HBS
  go_upto_region 3 with fail
  have HG := Lib.hid (show GrS w (w3.alloc (.cells #[.int .i64 (col : Nat), .int .i64 cut, .bool okb] 126)) g9 w3.heap.size (maj : Nat) (n : Nat) col cut okb from ⟨HB93.out.alloc _, Blk.new w3 _ _, HK3.out.alloc _⟩)
  clear HB93 HK3
  generalize w3.alloc (.cells #[.int .i64 (col : Nat), .int .i64 cut, .bool okb] 126) = w4 at *
  generalize w3.heap.size = g10 at *
  have hL0 : m ≠ 0 := by omega
  have d0 : ((m : Int) == 0) = false := beq_eq_false_iff_ne.2 (by omega)
  have d0' : (m == 0) = false := beq_eq_false_iff_ne.2 hL0
  have HNL := Lib.hid (show ¬ (n : Int) < least ∧ ¬ PureC (cnt8 (expand L)) ∧ ¬ (bestTo L 3).ok = false from ⟨fun h => HLL.out (.inr (.inl h)), fun h => HLL.out (.inr (.inr (.inl h))), fun h => HLL.out (.inr (.inr (.inr h)))⟩)
  have d1 : decide ((n : Int) < least) = false := decide_eq_false HNL.out.1
  have hnn := mul_in (X := 500) (Y := 500) (x := (n : Int)) (y := (n : Int)) (by omega) (by omega) (by omega) (by omega)
  have q1 : IntKind.i64.wrap ((n : Int) * (n : Int)) = (n : Int) * (n : Int) := fit64 (by omega) (by omega)
  have d2 : (sq == (n : Int) * (n : Int)) = false := beq_eq_false_iff_ne.2 (fun h => HNL.out.2.1 (HPQ.out.2 h))
  have hof : okb = true := by
    rw [HE.out.2.2]
    have := HNL.out.2.2
    simpa using this
  subst hof
  have hcol : col < 3 := by have := (best_some (L := L) 3 HE.out.2.2.symm).1; rw [← HE.out.1] at this; exact this
  clear hnn hL0
  go_wp2_with fail
  refine (HSQ.out _ HG.out.kp).mono ?_
  rintro e w5 ⟨rfl, hk5⟩
  have HG5 := Lib.hid (HG.out.new_ hk5)
  clear hk5 HSQ HG
  have c0 := HG5.out.b10.cell 0
  have c1 := HG5.out.b10.cell 1
  have c2 := HG5.out.b10.cell 2
  simp only [List.getElem?_toArray, List.getElem?_cons_zero, List.getElem?_cons_succ] at c0 c1 c2
  have HCU := Lib.hid (rcut_any col cut hcol (HRO.out.new_ HG5.out.kp) (by have := HN.out; omega))
  rw [(low_exp col cut L).1, (low_exp col cut L).2] at HCU
  have hll := low_high_len col cut (expand L)
  rw [(low_exp col cut L).1, (low_exp col cut L).2, ← HN.out] at hll
  have HLW := Lib.hid (lowL_ok (c := col) (x := cut) HLO.out)
  go_wp2_with fail
  refine HCU.out.mono ?_
  rintro e w6 ⟨lv, hv, rfl, hlo, hhi, hk6⟩
  obtain ⟨A1, k1, rfl, _⟩ := own_shape hlo
  obtain ⟨A2, k2, rfl, _⟩ := own_shape hhi
  have HG6 := Lib.hid (HG5.out.new_ hk6)
  have HLH := Lib.hid (show RIn 0 w6 (.slice A1 (expand (lowL col cut L)).length k1) (expand (lowL col cut L)) ∧ RIn 0 w6 (.slice A2 (expand (highL col cut L)).length k2) (expand (highL col cut L)) from ⟨hlo.rin, hhi.rin⟩)
  clear hlo hhi hk6 HCU HG5 c0 c1 c2 d1 d2 q1
  have hpow : 2 ^ (m + 1) = 2 * 2 ^ (left + 1) := by rw [HM.out, Nat.pow_succ]; omega
  have hpl := treeL_len least left (lowL col cut L) (at_ + 1)
  have HIL := Lib.hid (fun W (hW : Keep No w6 W) => ih (lowL col cut L) (at_ + 1) (HLH.out.1.new_ hW) HLW.out.1 (by omega) (by omega))
  have HIH := Lib.hid (fun W (hW : Keep No w6 W) => ih (highL col cut L) (at_ + 1 + (treeL least left (lowL col cut L) (at_ + 1)).length) (HLH.out.2.new_ hW) HLW.out.2 (by omega) (by omega))
  have HTR := Lib.hid (show treeL least m L at_ = ⟨(col : Nat), cut, ((at_ + 1 : Nat) : Int), ((at_ + 1 + (treeL least left (lowL col cut L) (at_ + 1)).length : Nat) : Int), -1, (n : Nat)⟩ :: (treeL least left (lowL col cut L) (at_ + 1) ++ treeL least left (highL col cut L) (at_ + 1 + (treeL least left (lowL col cut L) (at_ + 1)).length)) from by
    rw [HM.out, treeL, if_neg (by rw [← HM.out]; unfold leafL; rw [HTL.out]; exact HLL.out)]
    dsimp only
    rw [← HE.out.1, ← HE.out.2.1, HTL.out])
  have hT1 : (treeL least left (lowL col cut L) (at_ + 1)).length ≤ 100000 := by omega
  have hT2 : (treeL least left (highL col cut L) (at_ + 1 + (treeL least left (lowL col cut L) (at_ + 1)).length)).length ≤ 100000 := by
    have := treeL_len least left (highL col cut L) (at_ + 1 + (treeL least left (lowL col cut L) (at_ + 1)).length)
    omega
  have hat5 : at_ ≤ 100000 := by omega
  generalize treeL least left (lowL col cut L) (at_ + 1) = T1 at *
  generalize treeL least left (highL col cut L) (at_ + 1 + T1.length) = T2 at *
  rw [show ((at_ + 1 : Nat) : Int) = (at_ : Int) + 1 from by omega] at HIL HTR
  rw [show ((at_ + 1 + T1.length : Nat) : Int) = (at_ : Int) + 1 + (T1.length : Int) from by omega] at HIH HTR
  have hl6 : left ≤ 6 := by omega
  have hwl : IntKind.i64.wrap (left : Int) = (left : Int) := fit64 (by omega) (by omega)
  clear hpow hpl hll hat
  go_upto_region 6 with fail
  have HB11 := Lib.hid (Blk.new w6 130 #[.slice A1 (expand (lowL col cut L)).length k1, .slice A2 (expand (highL col cut L)).length k2])
  have HG7 := Lib.hid (HG6.out.new_ ((Keep.refl No w6).alloc (.cells #[.slice A1 (expand (lowL col cut L)).length k1, .slice A2 (expand (highL col cut L)).length k2] 130)))
  have HK7 := Lib.hid ((Keep.refl No w6).alloc (.cells #[.slice A1 (expand (lowL col cut L)).length k1, .slice A2 (expand (highL col cut L)).length k2] 130))
  clear HG6
  generalize w6.alloc (.cells #[.slice A1 (expand (lowL col cut L)).length k1, .slice A2 (expand (highL col cut L)).length k2] 130) = w7 at *
  generalize w6.heap.size = g11 at *
  have p0 := HB11.out.cell 0
  simp only [List.getElem?_toArray, List.getElem?_cons_zero, List.getElem?_cons_succ] at p0
  go_wp2_with fail
  refine (HIL.out _ HK7.out).mono ?_
  rintro e w8 ⟨v8, rfl, hb8, hk8⟩
  obtain ⟨A8, c8, rfl, _⟩ := own_shape hb8
  have HB8 := Lib.hid (show BOwn w.heap.size w8 _ T1 from own_weak hb8 HG7.out.kp.size)
  have HG8 := Lib.hid (HG7.out.new_ hk8)
  have HB118 := Lib.hid (HB11.out.keep hk8 (fun y => y))
  have HK8 := Lib.hid (HK7.out.trans hk8 (fun _ y => y.elim))
  clear hb8 hk8 HG7 HB11 HIL p0
  have p1 := HB118.out.cell 1
  simp only [List.getElem?_toArray, List.getElem?_cons_zero, List.getElem?_cons_succ] at p1
  go_wp2_with fail
  refine (HIH.out _ HK8.out).mono ?_
  rintro e w9 ⟨v9, rfl, hb9, hk9⟩
  obtain ⟨A9, c9, rfl, _⟩ := own_shape hb9
  have HB9b := Lib.hid (show BOwn w.heap.size w9 _ T2 from own_weak hb9 HG8.out.kp.size)
  have HB8b := Lib.hid (show BOwn w.heap.size w9 _ T1 from BOwn.keep HB8.out hk9 (fun _ _ y => y))
  have HG9 := Lib.hid (HG8.out.new_ hk9)
  clear hb9 hk9 HG8 HB8 HB118 HIH p1
  have c0 := HG9.out.b10.cell 0
  have c1 := HG9.out.b10.cell 1
  simp only [List.getElem?_toArray, List.getElem?_cons_zero, List.getElem?_cons_succ] at c0 c1
  go_upto_region 9 with fail
  have HB10 := Lib.hid (b_one (B := w.heap.size) (w := w9) ⟨(col : Nat), cut, (at_ : Int) + 1, (at_ : Int) + 1 + (T1.length : Int), -1, (n : Nat)⟩ HG9.out.kp.size)
  have ka := (Keep.refl No w9).alloc (.cells #[.int .i64 (col : Nat), .int .i64 cut, .int .i64 ((at_ : Int) + 1), .int .i64 ((at_ : Int) + 1 + (T1.length : Int)), .int .i64 (-1), .int .i64 (n : Nat)] 69)
  have HK10 := Lib.hid (HG9.out.kp.trans ka (fun _ y => y.elim))
  have HB8c := Lib.hid (BOwn.keep HB8b.out ka (fun _ _ y => y))
  have HB9c := Lib.hid (BOwn.keep HB9b.out ka (fun _ _ y => y))
  have HLT9 := Lib.hid (fun k (e : (Value.slice A9 T2.length c9).ownBlock = some k) => (World.ownsRow.lt HB9b.out k e).2)
  clear ka HG9 HB8b HB9b c0 c1
  dsimp only at HB10
  generalize w9.alloc (.cells #[.int .i64 (col : Nat), .int .i64 cut, .int .i64 ((at_ : Int) + 1), .int .i64 ((at_ : Int) + 1 + (T1.length : Int)), .int .i64 (-1), .int .i64 (n : Nat)] 69) = w10 at *
  obtain ⟨bb, hbb⟩ : ∃ bb : Br, bb = ⟨(col : Nat), cut, (at_ : Int) + 1, (at_ : Int) + 1 + (T1.length : Int), -1, (n : Nat)⟩ := ⟨_, rfl⟩
  rw [← hbb] at HB10 HTR
  clear hbb
  go_wp2_with (first
    | (at_builtin; refine wpList_append_any _ rfl (.tmp 87) (.tmp 88) _ rfl w.heap.size 69 i0 _ 6 48 Tryz.underlying49 hi0 hz0 hz1 hz2 rfl (by omega) _ _ _ rfl HB10.out 0 A8 _ c8 (bcells T1) rfl (Reads.of_own HB8c.out rfl) (bcells_one _) (by simp only [maxLen, List.length_cons, List.length_nil]; omega) (by simp only [List.length_cons, List.length_nil]; omega) HK10.out.size ?_; intro v11 w11 hown hg _; have HB11 := Lib.hid (show BOwn w.heap.size w11 v11 ([bb] ++ T1) from b_push hown rfl); have HK11 := Lib.hid (show Keep No w w11 from HK10.out.trans ((Keep.refl _ w10).grown hg (fun k e => .inl e)) (fun k e => .inr (World.ownsRow.lt HB10.out k e).1)); have HB9d := Lib.hid (show BOwn w.heap.size w11 _ T2 from BOwn.keep HB9c.out ((Keep.refl (fun k => (Value.slice (some ⟨w9.heap.size, 0, none⟩) 1 1).ownBlock = some k) w10).grown hg (fun k e => .inl e)) (fun k e e2 => by have h1 := HLT9.out k e; injection e2 with e2; dsimp only at e2; omega)); clear hown hg)
    | (at_builtin; refine wpList_append_any _ rfl (.tmp 89) (.tmp 90) _ rfl w.heap.size 69 i0 _ 6 48 Tryz.underlying49 hi0 hz0 hz1 hz2 rfl (by omega) _ _ _ rfl HB11.out 0 A9 _ c9 (bcells T2) rfl (Reads.of_own HB9d.out rfl) (bcells_one _) (by simp only [maxLen, List.length_append, List.length_cons, List.length_nil]; omega) (by simp only [List.length_append, List.length_cons, List.length_nil]; omega) HK11.out.size ?_; intro v12 w12 hown hg _; have HB12 := Lib.hid (show BOwn w.heap.size w12 v12 (([bb] ++ T1) ++ T2) from b_push hown rfl); have HK12 := Lib.hid (show Keep No w w12 from HK11.out.trans ((Keep.refl _ w11).grown hg (fun k e => .inl e)) (fun k e => .inr (World.ownsRow.lt HB11.out k e).1)); clear hown hg))
  go_ret
  refine ⟨_, rfl, ?_, HK12.out⟩
  rw [HTR.out]
  have h := HB12.out
  rw [List.append_assoc] at h
  exact h

theorem rgrown_any (least : Int) : ∀ (left : Nat) {B : Nat} {w : World} {v : Value} (L : List (Row × Nat)) (at_ : Nat), left ≤ 6 → RIn B w v (expand L) → B ≤ w.heap.size → (∀ p ∈ L, 0 < p.2 ∧ okRow p.1) → (expand L).length ≤ 500 → at_ + 2 ^ (left + 1) ≤ 100000 →
    Calls Tryz.prog 50 #[v, .int .i64 (left : Nat), .int .i64 least, .int .i64 (at_ : Nat)] w fun e w' => ∃ v', e = .returned v' ∧ BOwn w.heap.size w' v' (treeL least left L at_) ∧ Keep No w w'
  | 0, _, _, _, L, at_, _, h, hB, hL, hl, _ => rgrown_leaf least 0 L at_ h hB hL hl (.inl rfl)
  | left + 1, _, _, _, L, at_, h6, h, hB, hL, hl, hat => by
    by_cases hlf : leafL (left + 1) least L
    · have e : treeL least (left + 1) L at_ = [leafB L] := by rw [treeL, if_pos hlf]
      rw [e]
      exact rgrown_leaf least (left + 1) L at_ h hB hL hl hlf
    · exact rgrown_fork least left (left + 1) L at_ rfl h hB hL hl hlf h6 hat (fun {w v} L' at' h1 h2 h3 h4 => rgrown_any least left L' at' (by omega) h1 (Nat.zero_le _) h2 h3 h4)
set_option maxHeartbeats 400000 in
theorem rtree_bad {w : World} (v : Value) (deep least : Int) (h : ¬ (0 ≤ deep ∧ deep ≤ 6 ∧ 1 ≤ least)) :
    Calls Tryz.prog 17 #[v, .int .i64 deep, .int .i64 least] w fun e w' => e = .returned (.tuple #[.slice none 0 0, .int .i64 1]) ∧ Keep No w w' := by
  have HW := Lib.hid (fun W => within_any deep 0 6 W)
  by_cases h1 : 0 ≤ deep ∧ deep ≤ 6
  · rw [decide_eq_true h1] at HW
    have h2 : least < 1 := Int.not_le.1 fun hn => h ⟨h1.1, h1.2, hn⟩
    have h2' : decide (least < 1) = true := decide_eq_true h2
    clear h h1
    go_enter Tryz.func17, Tryz.ntmps17
    go_wp2_with (go_at_call 48; refine (HW.out _).mono ?_; rintro e w' ⟨rfl, rfl⟩)
    go_ret2
    exact ⟨rfl, Keep.refl _ _⟩
  · rw [decide_eq_false h1] at HW
    clear h h1
    go_enter Tryz.func17, Tryz.ntmps17
    go_wp2_with (go_at_call 48; refine (HW.out _).mono ?_; rintro e w' ⟨rfl, rfl⟩)
    go_ret2
    exact ⟨rfl, Keep.refl _ _⟩
set_option maxHeartbeats 400000 in
theorem rtree_none {w : World} {A : Option Addr} {c : Nat} (deep least : Int) (h : 0 ≤ deep ∧ deep ≤ 6 ∧ 1 ≤ least) :
    Calls Tryz.prog 17 #[.slice A 0 c, .int .i64 deep, .int .i64 least] w fun e w' => e = .returned (.tuple #[.slice none 0 0, .int .i64 3]) ∧ Keep No w w' := by
  have HW := Lib.hid (fun W => within_any deep 0 6 W)
  rw [decide_eq_true (show 0 ≤ deep ∧ deep ≤ 6 from ⟨h.1, h.2.1⟩)] at HW
  have h2 : ¬ least < 1 := by omega
  have h2' : decide (least < 1) = false := decide_eq_false h2
  clear h
  go_enter Tryz.func17, Tryz.ntmps17
  go_wp2_with (go_at_call 48; refine (HW.out _).mono ?_; rintro e w' ⟨rfl, rfl⟩)
  go_ret2
  exact ⟨rfl, Keep.refl _ _⟩
set_option maxHeartbeats 400000 in
set_option maxRecDepth 100000 in
theorem rtree_good {B : Nat} {w : World} {v : Value} (L : List (Row × Nat)) (deep : Nat) (least : Int) (h : RIn B w v (expand L)) (hB : B ≤ w.heap.size) (hL : ∀ p ∈ L, 0 < p.2 ∧ okRow p.1) (hl : (expand L).length ≤ 500) (hd : deep ≤ 6) (h1 : 1 ≤ least) (h0 : 0 < (expand L).length) :
    Calls Tryz.prog 17 #[v, .int .i64 (deep : Nat), .int .i64 least] w fun e w' => ∃ v', e = .returned (.tuple #[v', .int .i64 0]) ∧ BOwn w.heap.size w' v' (treeL least deep L 0) ∧ Keep No w w' := by
  have HW := Lib.hid (fun W => within_any (deep : Nat) 0 6 W)
  rw [decide_eq_true (show (0 : Int) ≤ (deep : Nat) ∧ ((deep : Nat) : Int) ≤ 6 from by omega)] at HW
  have HGR := Lib.hid (rgrown_any least deep L 0 hd h hB hL hl (by
    have : 2 ^ (deep + 1) ≤ 2 ^ 7 := Nat.pow_le_pow_right (by omega) (by omega)
    omega))
  obtain ⟨A, c, rfl, _⟩ := h
  have h2 : ¬ least < 1 := by omega
  have h2' : decide (least < 1) = false := decide_eq_false h2
  have hz : (((expand L).length : Int) == 0) = false := beq_eq_false_iff_ne.2 (by omega)
  have hz' : ((expand L).length == 0) = false := beq_eq_false_iff_ne.2 (by omega)
  generalize (expand L).length = n at *
  clear h1 h0 hL hl
  go_enter Tryz.func17, Tryz.ntmps17
  go_wp2_with (first
    | (go_at_call 48; refine (HW.out _).mono ?_; rintro e w' ⟨rfl, rfl⟩)
    | (go_at_call 50; refine HGR.out.mono ?_; rintro e w5 ⟨v5, rfl, hb5, hk5⟩; have H5 := Lib.hid (show _ ∧ _ from ⟨hb5, hk5⟩); clear hb5 hk5))
  go_ret2
  exact ⟨_, rfl, H5.out.1, H5.out.2⟩
theorem rtree_any {B : Nat} {w : World} {v : Value} (L : List (Row × Nat)) (deep least : Int) (h : RIn B w v (expand L)) (hB : B ≤ w.heap.size) (hL : ∀ p ∈ L, 0 < p.2 ∧ okRow p.1) (hl : (expand L).length ≤ 500) :
    Calls Tryz.prog 17 #[v, .int .i64 deep, .int .i64 least] w fun e w' => ∃ v', e = .returned (.tuple #[v', .int .i64 (treeEr (expand L).length deep least)]) ∧ BOwn w.heap.size w' v' (treeT L (expand L).length deep least) ∧ Keep No w w' := by
  by_cases hc : 0 ≤ deep ∧ deep ≤ 6 ∧ 1 ≤ least
  · by_cases h0 : (expand L).length = 0
    · obtain ⟨A, c, rfl, _⟩ := h
      rw [h0]
      refine (rtree_none deep least hc).mono fun e w' ⟨h1, h2⟩ => ⟨.slice none 0 0, ?_, ?_, h2⟩
      · rw [h1]; unfold treeEr; rw [if_pos hc, if_pos rfl]
      · unfold treeT; rw [if_neg (fun h => h.2 rfl)]; exact World.ownsRow_nil _ _ _ _
    · obtain ⟨d, rfl⟩ : ∃ d : Nat, deep = (d : Int) := ⟨deep.toNat, by omega⟩
      refine (rtree_good L d least h hB hL hl (by omega) hc.2.2 (by omega)).mono fun e w' ⟨v', h1, h2, h3⟩ => ⟨v', ?_, ?_, h3⟩
      · rw [h1]; unfold treeEr; rw [if_pos hc, if_neg h0]
      · unfold treeT; rw [if_pos ⟨hc, h0⟩, Int.toNat_natCast]; exact h2
  · refine (rtree_bad v deep least hc).mono fun e w' ⟨h1, h2⟩ => ⟨.slice none 0 0, ?_, ?_, h2⟩
    · rw [h1]; unfold treeEr; rw [if_neg hc]
    · unfold treeT; rw [if_neg (fun h => hc h.1)]; exact World.ownsRow_nil _ _ _ _
end Go.Proofs.YtgabidgpngiecaaGreat
