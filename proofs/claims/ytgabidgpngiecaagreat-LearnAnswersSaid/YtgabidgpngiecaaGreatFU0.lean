/- The reference's Unlearn; a model's Learn and Unlearn for every row; operations opened. Conditions: each names its own. -/
import Derived.Test.YtgabidgpngiecaaGreatLR0
import Derived.Test.YtgabidgpngiecaaGreatLU0
import Derived.Test.YtgabidgpngiecaaGreatLO0
namespace Go.Proofs.YtgabidgpngiecaaGreat
open Go.RowKit Go.Proofs.YtgabidgpngiecaaGreatKit Go.Proofs.YtgabidgpngiecaaGreatPlain Go.Sort

set_option maxRecDepth 100000 in
/-- Two rows compared. -/
theorem eqR {r s : Row} (hr : okRow r) (hs : okRow s) (W : World) :
    (Op.equalIn 10000 30 (.agg #[.int .i64 r.a, .int .i64 r.b, .int .i64 r.c, .int .i64 r.l]) (.agg #[.int .i64 s.a, .int .i64 s.b, .int .i64 s.c, .int .i64 s.l])).run Tryz.prog W = .ok (decide (r = s)) W := by
  obtain ⟨a0, a1, a2, a3⟩ := r
  obtain ⟨b0, b1, b2, b3⟩ := s
  obtain ⟨⟨h1, h2⟩, ⟨h3, h4⟩, ⟨h5, h6⟩, h7, h8⟩ := hr
  obtain ⟨⟨g1, g2⟩, ⟨g3, g4⟩, ⟨g5, g6⟩, g7, g8⟩ := hs
  dsimp only at *
  have x0 := wf_small (n := a0) (by omega) (by omega)
  have x1 := wf_small (n := a1) (by omega) (by omega)
  have x2 := wf_small (n := a2) (by omega) (by omega)
  have x3 := wf_small (n := a3) (by omega) (by omega)
  have y0 := wf_small (n := b0) (by omega) (by omega)
  have y1 := wf_small (n := b1) (by omega) (by omega)
  have y2 := wf_small (n := b2) (by omega) (by omega)
  have y3 := wf_small (n := b3) (by omega) (by omega)
  have hk : Tryz.prog.keyTypeAt 3 30 = true := by kernel_rfl
  obtain ⟨r, e1, e2⟩ := run_equalIn_deep (P := Tryz.prog) 9997 3 30 hk W 3 3 (.agg #[.int .i64 a0, .int .i64 a1, .int .i64 a2, .int .i64 a3]) (.agg #[.int .i64 b0, .int .i64 b1, .int .i64 b2, .int .i64 b3]) [.int .i64 a0, .int .i64 a1, .int .i64 a2, .int .i64 a3] [.int .i64 b0, .int .i64 b1, .int .i64 b2, .int .i64 b3]
    (by simp [Value.formed, Tryz.underlying30]; exact cells_row.symm) (by simp [Value.formed, Tryz.underlying30]; exact cells_row.symm)
    (by simp [Value.cells, Program.keyLits, Tryz.underlying30, Tryz.underlying28, Tryz.underlying3, cells_row, cells_three, cells_int, x0, x1, x2, x3, List.range, List.range.loop])
    (by simp [Value.cells, Program.keyLits, Tryz.underlying30, Tryz.underlying28, Tryz.underlying3, cells_row, cells_three, cells_int, y0, y1, y2, y3, List.range, List.range.loop])
  have e : (10000 : Nat) = 9997 + 3 := by omega
  rw [e]
  refine e1.trans ?_
  congr 1
  rw [Bool.eq_iff_iff, e2]
  simp

/-! ### Plain -/
def unlE (l : List Row) (r : Row) : Int := if okRow r then (if r ∈ l then 0 else 3) else 1
def unlL (l : List Row) (r : Row) : List Row := if okRow r then l.erase r else l
theorem erase_at {r : Row} : ∀ (l : List Row) (k : Nat) (hk : k < l.length), l[k] = r → (∀ j (h : j < l.length), j < k → l[j] ≠ r) → l.erase r = l.take k ++ l.drop (k + 1)
  | [], k, hk, _, _ => absurd hk (by simp)
  | x :: l, 0, _, h1, _ => by
    obtain rfl : x = r := h1
    simp
  | x :: l, k + 1, hk, h1, h2 => by
    have hx : x ≠ r := h2 0 (by simp) (by omega)
    have ih := erase_at (r := r) l k (by simpa using hk) (by simpa using h1) (fun j hj hjk => h2 (j + 1) (by simpa using hj) (by omega))
    rw [List.erase_cons, if_neg (by simpa using hx), ih]
    rfl
theorem not_mem_of {l : List Row} {r : Row} (h : ∀ j (h : j < l.length), l[j] ≠ r) : r ∉ l := fun hm => by
  obtain ⟨j, hj, e⟩ := List.getElem_of_mem hm
  exact h j hj e

set_option maxHeartbeats 1000000 in
set_option maxRecDepth 100000 in
theorem runlearn_any {base : Nat} {w : World} {v : Value} {l : List Row} (r : Row) (h : RIn base w v l) (hok : ∀ x ∈ l, okRow x) (hmax : l.length ≤ 1000000) :
    Calls Tryz.prog 8 #[v, r.v] w fun e w' => ∃ v', e = .returned (.tuple #[v', .int .i64 (unlE l r)]) ∧ RIn base w' v' (unlL l r) ∧ Keep No w w' := by
  have mixed : Tryz.prog.follows .mixedOrders = true := by kernel_rfl
  obtain ⟨i0, hi0, hz0, hz1, hz2⟩ := info_parts info_row
  have B0 := Blk.new w 30 #[.int .i64 r.a, .int .i64 r.b, .int .i64 r.c, .int .i64 r.l]
  have k0 := (Keep.refl No w).alloc (.cells #[.int .i64 r.a, .int .i64 r.b, .int .i64 r.c, .int .i64 r.l] 30)
  have H0 := Lib.hid (show RSt base w _ v l w.heap.size r from ⟨h.new_ k0, B0, k0⟩)
  have HA := Lib.hid (fun W => rallowed_any r W)
  have f0 := B0.cell 0
  have f1 := B0.cell 1
  have f2 := B0.cell 2
  have f3 := B0.cell 3
  simp only [List.getElem?_toArray, List.getElem?_cons_zero, List.getElem?_cons_succ] at f0 f1 f2 f3
  obtain ⟨A, c, rfl, hc, hR00⟩ := h
  have HOK := Lib.hid hok
  clear B0 k0 hR00 hok
  unfold unlE unlL Row.v
  by_cases hr : okRow r
  · rw [decide_eq_true hr] at HA
    rw [if_pos hr, if_pos hr]
    have HRO := Lib.hid hr
    go_enter Tryz.func8, Tryz.ntmps8
    go_wp2_with fail
    generalize w.alloc (.cells #[.int .i64 r.a, .int .i64 r.b, .int .i64 r.c, .int .i64 r.l] 30) = w0 at *
    unfold Row.v at HA
    refine (HA.out w0).mono ?_
    rintro e w1 ⟨rfl, k1⟩
    have H1 := Lib.hid (H0.out.new_ k1)
    clear k1 H0 HA f0 f1 f2 f3 hr
    go_wp2_with fail
    go_loopg [7] l.length (fun kx s7 wr => ∃ k : Nat, s7 = .int .i64 k ∧ k ≤ l.length ∧ l.length ≤ k + kx ∧ Hid (∀ j (h : j < l.length), j < k → l[j] ≠ r) ∧ Hid (RSt base w wr (.slice A l.length c) l w.heap.size r))
    case atStart => exact ⟨0, rfl, Nat.zero_le _, by omega, Lib.hid (fun j _ h => by omega), H1⟩
    case round =>
      clear H1
      obtain ⟨k, rfl, hk, hkx, HI, HS⟩ := hrel
      have hkz : (0 : Int) ≤ (k : Int) := by omega
      by_cases hlt : k < l.length
      · have hlz2 : (k : Int) < (l.length : Int) := by omega
        have hgd : decide ((k : Int) < (l.length : Int)) = true := decide_eq_true hlz2
        obtain ⟨A0, c0, eA, _, hR0⟩ := HS.out.rw_
        injection eA with eA _ ec
        subst eA
        subst ec
        have HR := Lib.hid hR0
        obtain ⟨ad, rfl, _, e0, e1, e2, e3⟩ := hR0.at_ hlt
        have b0 := HS.out.bk.cell 0
        have b1 := HS.out.bk.cell 1
        have b2 := HS.out.bk.cell 2
        have b3 := HS.out.bk.cell 3
        simp only [List.getElem?_toArray, List.getElem?_cons_zero, List.getElem?_cons_succ] at b0 b1 b2 b3
        have heq := fun W => eqR (HOK.out _ (List.getElem_mem hlt)) HRO.out W
        clear hR0
        by_cases he : l[k] = r
        · rw [decide_eq_true he] at heq
          have HER := Lib.hid (erase_at l k hlt he HI.out)
          have HME := Lib.hid (show r ∈ l from he ▸ List.getElem_mem hlt)
          clear he HI
          generalize l[k] = x at *
          go_wp2_with fail
          go_quiet (fail)
          have HS3 := Lib.hid (HS.out.new_ ((Keep.refl No wr).drewN nq))
          have HR3 := Lib.hid (HR.out.new_ ((Keep.refl No wr).drewN nq))
          clear e0 e1 e2 e3 b0 b1 b2 b3 heq HR HS
          generalize wr.drewN nq = w3 at *
          generalize hB : some ad = B at *
          clear hB
          obtain ⟨A5, hs5, HR5⟩ := row_lo HR3.out hlt hc
          have hs4 := row_hi (A := B) (n := l.length) (c := c) (f := k) (by omega)
          have HR4 := Lib.hid (rrows_take HR3.out (Nat.le_of_lt hlt))
          have HR5 := Lib.hid HR5
          have hkw1 : Keep No w3 (w3.alloc (.cells #[] 30)).drew := ((Keep.refl No w3).alloc _).drew
          have hw1 : IntKind.i64.wrap ((k : Int) + 1) = (k : Int) + 1 := IntWalk.i64_in _ ⟨by omega, by omega⟩
          have hkl : k < 1000000 := by omega
          go_wp2_with fail
          have hkw0 : Keep No w3 w3.drew := (Keep.refl No w3).drew
          go_region_held3 (fun W => Keep No w3 W)
            (first
              | (with_reducible exact hkw0)
              | (with_reducible exact hkw1)
              | (with_reducible exact H4.out.2)
              | (with_reducible exact H5.out.2)
              | (with_reducible refine Keep.alloc ?_ _; with_reducible assumption)
              | fail)
            (first
              | (refine step_append_any _ (by rfl) _ _ _ (by rfl) w3.heap.size 30 i0 _ 4 32 Tryz.underlying27 hi0 hz0 hz1 hz2 rfl (by omega) _ 0 [] (by rfl) (own_keep (own_empty_at (by simp) _ 4 (Nat.le_refl _)) ((Keep.refl No _).drew) (fun _ _ x => x)) base B k c _ (by rfl) (Reads.new_ HR4.out hkw1) (rcells_one _) (by simp only [maxLen]; omega) (by omega) (by simp) ?_; intro v4 w4 hown4 hg4 _; have H4 := Lib.hid (show w4.ownsRow w3.heap.size 30 4 v4 k (rcells (l.take k)) ∧ Keep No w3 w4 from ⟨by simpa using hown4, hkw1.grown hg4 (fun k e => .inr (by cases e; simp))⟩); clear hown4 hg4)
              | (refine step_append_any _ (by rfl) _ _ _ (by rfl) w3.heap.size 30 i0 _ 4 32 Tryz.underlying27 hi0 hz0 hz1 hz2 rfl (by omega) _ k _ (by rfl) H4.out.1 base A5 (l.length - (k + 1)) (c - (k + 1)) _ (by rfl) (Reads.new_ HR5.out H4.out.2) (rcells_one _) (by simp only [maxLen]; omega) (by omega) H4.out.2.size ?_; intro v5 w5 hown5 hg5 _; have H5 := Lib.hid (show ROwn w3.heap.size w5 v5 (l.take k ++ l.drop (k + 1)) ∧ Keep No w3 w5 from ⟨cut_own hlt hown5, H4.out.2.trans ((Keep.refl _ w4).grown hg5 (fun k e => .inl e)) (fun b e => .inr (World.ownsRow.lt H4.out.1 b e).1)⟩); clear hown5 hg5)
              | fail)
          have HE := Lib.hid (show RIn base w5 v5 (l.erase r) ∧ Keep No w w5 from ⟨HER.out ▸ H5.out.1.rin, HS3.out.kp.trans H5.out.2 (fun _ x => x.elim)⟩)
          clear hs4 hs5 HR4 HR5 H4 H5 hkw0 hkw1 hw1
          go_wp2_with fail
          go_ret2
          try rw [if_pos HME.out]
          exact ⟨_, rfl, HE.out.1, HE.out.2⟩
        · rw [decide_eq_false he] at heq
          have HI2 := Lib.hid (show ∀ j (h : j < l.length), j < k + 1 → l[j] ≠ r from fun j h hj => by
            by_cases hjk : j = k
            · subst hjk; exact he
            · exact HI.out j h (by omega))
          clear he HI HR
          generalize l[k] = x at e0 e1 e2 e3 heq
          go_wp2_with fail
          go_quiet (fail)
          clear e0 e1 e2 e3 b0 b1 b2 b3 heq
          go_wp2_with fail
          go_roundg (l.length - (k + 1))
          case measure => omega
          case rel => exact ⟨k + 1, by go_num, by omega, by omega, HI2, Lib.hid (HS.out.new_ ((Keep.refl No _).drewN _))⟩
      · obtain rfl : k = l.length := by omega
        have hlz2 : ¬ (l.length : Int) < (l.length : Int) := by omega
        have hgd : decide ((l.length : Int) < (l.length : Int)) = false := decide_eq_false hlz2
        have HN := Lib.hid (not_mem_of (fun j h => HI.out j h h))
        clear HI
        go_wp2_with fail
        go_ret2
        try rw [if_neg HN.out]
        try rw [List.erase_of_not_mem HN.out]
        exact ⟨_, rfl, HS.out.rw_, HS.out.kp⟩
  · rw [decide_eq_false hr] at HA
    rw [if_neg hr, if_neg hr]
    go_enter Tryz.func8, Tryz.ntmps8
    go_wp2_with fail
    generalize w.alloc (.cells #[.int .i64 r.a, .int .i64 r.b, .int .i64 r.c, .int .i64 r.l] 30) = w0 at *
    unfold Row.v at HA
    refine (HA.out w0).mono ?_
    rintro e w1 ⟨rfl, k1⟩
    have H1 := Lib.hid (H0.out.new_ k1)
    clear k1
    go_wp2_with fail
    go_ret2
    exact ⟨_, rfl, H1.out.rw_, H1.out.kp⟩

/-! ### A model's Learn and Unlearn, for every row -/
theorem munlearn_any {base : Nat} {w : World} {mb b : Nat} {l : List Row} (r : Row) (h : Mdl base w mb b l) :
    Calls Tryz.prog 7 #[.pointer (some ⟨mb, 0, none⟩), r.v] w fun e w' => e = .returned (.int .i64 (unlE l r)) ∧ Mdl base w' mb b (unlL l r) ∧ Keep (fun x => x = mb ∨ x = b) w w' := by
  unfold unlE unlL
  by_cases hr : okRow r
  · rw [if_pos hr, if_pos hr]
    by_cases hm : r ∈ l
    · rw [if_pos hm]
      exact unlearn_yes r h hm
    · rw [if_neg hm, List.erase_of_not_mem hm]
      exact (unlearn_none r h hr hm).mono fun e w' ⟨h1, h2⟩ => ⟨h1, h.new_ h2, h2.mono (fun _ x => x.elim)⟩
  · rw [if_neg hr, if_neg hr]
    exact (unlearn_bad r h hr).mono fun e w' ⟨h1, h2⟩ => ⟨h1, h.new_ h2, h2.mono (fun _ x => x.elim)⟩
theorem insR_pm (r : Row) : ∀ l : List Row, (insR r l).Perm (r :: l)
  | [] => List.Perm.refl _
  | x :: l => by
    rw [insR]
    split
    · exact List.Perm.refl _
    · exact (List.Perm.cons x (insR_pm r l)).trans (List.Perm.swap r x l)
theorem mlearn_any {base : Nat} {w : World} {mb b : Nat} {l : List Row} (r : Row) (h : Mdl base w mb b l) :
    Calls Tryz.prog 9 #[.pointer (some ⟨mb, 0, none⟩), r.v] w fun e w' => e = .returned (.int .i64 (learnE l r)) ∧ Mdl base w' mb b (learnL l r) ∧ Keep (fun x => x = mb ∨ x = b) w w' := by
  unfold learnE learnL
  by_cases hr : okRow r
  · rw [if_pos hr, if_pos hr]
    by_cases hl : 500 ≤ l.length
    · rw [if_pos hl, if_pos hl]
      exact (learn_full r h hr hl).mono fun e w' ⟨h1, h2⟩ => ⟨h1, h.new_ h2, h2.mono (fun _ x => x.elim)⟩
    · rw [if_neg hl, if_neg hl]
      exact (learn_yes r h hr (by omega)).mono fun e w' ⟨h1, h2, h3⟩ => ⟨h1, h2.perm (insR_pm r l).symm, h3⟩
  · rw [if_neg hr, if_neg hr]
    exact (learn_bad r h hr).mono fun e w' ⟨h1, h2⟩ => ⟨h1, h.new_ h2, h2.mono (fun _ x => x.elim)⟩
/-- Rows in a slice are not the model's blocks. -/
theorem imm_mdl {base : Nat} {w : World} {mb b k : Nat} {R : List Row} (h : Imm base 30 w k) (hm : Mdl base w mb b R) : k ≠ mb ∧ k ≠ b := by
  obtain ⟨s, h3, _⟩ := hm
  obtain ⟨es, clock, h4, _⟩ := h3.map
  rcases h.2.2 with h5 | ⟨cs, f, h5⟩
  · have := h3.bm
    have := h3.bb
    omega
  · refine ⟨fun e => ?_, fun e => ?_⟩
    · have := h3.blk
      unfold Blk at this
      rw [← e, h5] at this
      injection this with this
      injection this with _ this _
      exact absurd this (by decide)
    · rw [← e, h5] at h4
      cases h4
theorem RIn.mdl {base : Nat} {w w' : World} {mb b : Nat} {v : Value} {R l : List Row} (h : RIn base w v l) (hm : Mdl base w mb b R) (hk : Keep (fun x => x = mb ∨ x = b) w w') : RIn base w' v l := by
  obtain ⟨A, c, e, hc, hr⟩ := h
  refine ⟨A, c, e, hc, hr.1, fun hn => ?_⟩
  obtain ⟨ad, rfl, hi, hcell⟩ := hr.2 hn
  have hns : ¬ (ad.block = mb ∨ ad.block = b) := fun e => e.elim (imm_mdl hi hm).1 (imm_mdl hi hm).2
  have hb : w'.heap[ad.block]? = w.heap[ad.block]? := hk.block _ hi.lt hns
  refine ⟨ad, rfl, hi.same hb hk.size, fun j u hu => ?_⟩
  have h1 := hk.cell (p := ad.add j) (by rw [block_of_add]; exact hi.lt) (by rw [block_of_add]; exact hns)
  exact h1.trans (hcell j u hu)
end Go.Proofs.YtgabidgpngiecaaGreat
