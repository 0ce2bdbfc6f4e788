/- OrderYields: the walk. Conditions: none but that the arguments are read. -/
import Derived.Test.YtdmckjojeddaaaaYC
namespace Go.Proofs.Ytdmckjojeddaaaa
open Go.RowKit Go.Proofs.YtdmckjojeddaaaaKit Go.Proofs.YtdmckjojeddaaaaPlain

theorem exit_or {id : Nat} {R : Exit → Act → World → Prop} {e : Exit} {a : Act} {w : World} (he : e = .normal ∨ e = .exit id) (h : R .normal a w) : Exit.inBlock id R e a w := by
  rcases he with rfl | rfl
  · exact h
  · simpa [Exit.inBlock] using h
theorem pairs_q {base b14 : Nat} {W W' : World} {A : Option Addr} {n : Nat} {l : PairL} {cs : Array Value} (h : Pairs base W A n l) (hk : Keep (fun b => b = b14 ∨ Mut base W b) W W') (hb : Blk W b14 35 cs) (hg : base ≤ b14) : Pairs base W' A n l := by
  have off : ∀ e, e ≠ 35 → mutTy e = false → Off base e W (fun b => b = b14 ∨ Mut base W b) := fun e he hm b hS => by
    rcases hS with rfl | ⟨h1, cs', t, f, h2, h3⟩
    · exact ⟨hg, _, _, _, hb, fun e2 => he e2.symm⟩
    · exact ⟨h1, cs', t, f, h2, fun e2 => by subst e2; rw [hm] at h3; cases h3⟩
  obtain ⟨xs, hr, hf⟩ := h
  exact ⟨xs, hr.off hk (off _ (by decide) rfl), hf.mono (fun x c hx => hx.off hk (off _ (by decide) rfl))⟩
/-- What the second loop has at a place. -/
def yMid (out : PairL) (key value : List UInt8) (r j : Nat) : PairL := if j < r then putL out key value else yat out key value r
theorem yMid_last {out : PairL} {key value : List UInt8} {r j : Nat} (hs : Sorted out) (hj : j + 1 = r) (hlt : j < out.length) : (out[j].1 = key → yMid out key value r (j + 1) = putL (yMid out key value r j) key out[j].2) ∧ (out[j].1 ≠ key → yMid out key value r (j + 1) = yMid out key value r j) := by
  subst hj
  have e1 : yMid out key value (j + 1) (j + 1) = putL out key (yval out key value j) := by rw [yMid, if_neg (Nat.lt_irrefl _)]; rfl
  have e2 : yMid out key value (j + 1) j = putL out key value := by rw [yMid, if_pos (Nat.lt_succ_self _)]
  rw [e1, e2]
  refine ⟨fun h => ?_, fun h => ?_⟩
  · have h3 := yat_put hs key value out[j].2 (out.length + 1)
    have h4 : yat out key value (out.length + 1) = putL out key value := by
      show putL out key (yval out key value out.length) = _
      rw [yval, List.getElem?_eq_none (Nat.le_refl _)]
    rw [h4] at h3
    rw [h3, yval, List.getElem?_eq_getElem hlt]
    dsimp only
    rw [if_pos h]
  · rw [yval, List.getElem?_eq_getElem hlt]
    dsimp only
    rw [if_neg h]
theorem yMid_step {out : PairL} {key value : List UInt8} {r j : Nat} (hj : j + 1 < r) : yMid out key value r (j + 1) = yMid out key value r j := by
  rw [yMid, if_pos hj, yMid, if_pos (by omega)]
/-- Behind a range. -/
theorem YI.done {y : YC} {ml : Nat → PairL} {xs : List Came} {W : World} (h : YI y ml xs W) : ∃ A9 c9 F, xs.length ≤ c9 ∧ Blk W y.b14 35 #[.slice A9 xs.length c9] ∧ Pairs y.base W A9 xs.length (prs xs) ∧ MSt y.base W y.mb y.seed (ml xs.length) F ∧ ∀ b ∈ F, y.w.heap.size ≤ b := by
  obtain ⟨T, v, F, h1, _, _, _, _, h6, h7, h8⟩ := h.ex
  obtain ⟨A9, n9, c9, rfl, hn, hc⟩ := h6.shape
  have hn2 : n9 = xs.length := by rw [hn.out]; simp [prs]
  have hn3 : (prs xs).length = xs.length := by simp [prs]
  subst hn2
  rw [← hn3] at h6
  have := OwnPI.pairs (base := y.base) h6
  rw [hn3] at this
  exact ⟨A9, c9, F, hc, h1, this, h7.mst, fun b hb => (h8 b hb).1⟩

set_option maxHeartbeats 8000000 in
set_option maxRecDepth 200000 in
theorem orderYields_walk {base : Nat} (seed : Int) (Lp : Option Addr) (m d : Nat) (l : PairL) (stop : Int) (A : Option Addr) (n c : Nat) (key : List UInt8) (B : Option Addr) (n2 c2 : Nat) (value : List UInt8) (w : World)
    (hl : Pairs base w Lp m l) (hk : Bytes base w A n key) (hv : Bytes base w B n2 value) (hb : base ≤ w.heap.size) :
    Calls Try.prog 9 #[.agg #[.int .u64 seed, .slice Lp m d, .int .i64 stop, .slice A n c, .slice B n2 c2]] w fun e w' => e = .returned (.bool true) ∧ Keep No w w' := by
  have HL := Lib.hid (show _ ∧ _ ∧ _ from ⟨hl, hk, hv⟩)
  clear hl hk hv
  refine (callsIn_wide (n := 3)).1 ?_
  refine callsIn_of_wp_marks Try.func9 rfl trivial ?_ rfl
  simp only [Try.ntmps9, List.size_toArray, List.length_cons, List.length_nil, Nat.reduceAdd, Nat.reduceSub, Array.replicate_succ, Array.replicate_zero, List.push_toArray, List.append_toArray, List.nil_append, List.cons_append]
  refine wpIn_wide.2 ?_
  have HB0 := Lib.hid ((Blk.new w 76 #[.int .u64 seed, .slice Lp m d, .int .i64 stop, .slice A n c, .slice B n2 c2]).alloc (.cells #[.bool false] 4))
  have HR0 := Lib.hid (show Blk ((w.alloc (.cells #[.int .u64 seed, .slice Lp m d, .int .i64 stop, .slice A n c, .slice B n2 c2] 76)).alloc (.cells #[.bool false] 4)) (w.heap.size + 1) 4 #[.bool false] from blk_at (by simp))
  have HK0 := Lib.hid (((Keep.refl No w).alloc (.cells #[.int .u64 seed, .slice Lp m d, .int .i64 stop, .slice A n c, .slice B n2 c2] 76)).alloc (.cells #[.bool false] 4))
  go_upto_region 1 with fail
  obtain ⟨w0, hw0⟩ : ∃ x, x = ((w.alloc (.cells #[.int .u64 seed, .slice Lp m d, .int .i64 stop, .slice A n c, .slice B n2 c2] 76)).alloc (.cells #[.bool false] 4)) := ⟨_, rfl⟩
  rw [← hw0] at HB0 HR0 HK0 ⊢
  have hz0 : w.heap.size + 2 ≤ w0.heap.size := by rw [hw0]; simp
  clear hw0
  have f0 := HB0.out.cell 0
  have f1 := HB0.out.cell 1
  have f2 := HB0.out.cell 2
  have f3 := HB0.out.cell 3
  have f4 := HB0.out.cell 4
  simp only [List.getElem?_toArray, List.getElem?_cons_zero, List.getElem?_cons_succ] at f0 f1 f2 f3 f4
  have hlt := HB0.out.lt
  go_cut [3, 4, 5, 6, 7] from 20 (fun s3 s4 s5 s6 s7 wx => s3 = .int .u64 seed ∧ s4 = .slice Lp m d ∧ ∃ b5 b6 b7, s5 = .pointer (some ⟨b5, 0, none⟩) ∧ s6 = .pointer (some ⟨b6, 0, none⟩) ∧ s7 = .pointer (some ⟨b7, 0, none⟩) ∧
    Hid (Blk wx b5 3 #[.int .i64 stop] ∧ Blk wx b6 23 #[.slice A n c] ∧ Blk wx b7 23 #[.slice B n2 c2] ∧ Keep No w0 wx))
  case first =>
    have hS0 : SameAt w.heap.size w0 w0 := ⟨hlt, fun _ => rfl⟩
    go_region_held3 (fun w' => (∀ i, w'.cell? ⟨w.heap.size, i, none⟩ = w0.cell? ⟨w.heap.size, i, none⟩) ∧ SameAt w.heap.size w0 w')
      (first
        | exact ⟨fun _ => rfl, hS0⟩
        | (refine (fun (h : SameAt w.heap.size w0 _) => ⟨h.2, h⟩) ?_; repeat' (first | (with_reducible exact hS0) | (with_reducible refine SameAt.drew ?_) | (with_reducible refine SameAt.alloc ?_ _) | (with_reducible refine SameAt.set ?_ (by omega) _))))
      (fail)
    all_goals
      go_wp2_with fail
      go_meet
      refine ⟨rfl, rfl, _, _, _, rfl, rfl, rfl, Lib.hid ⟨Blk.drew ?_, Blk.drew ?_, Blk.drew ?_, ((((Keep.refl No w0).alloc _).alloc _).alloc _).drew⟩⟩
      all_goals first | exact blk_at (by simp) | exact (blk_at (by simp)).alloc _ | exact ((blk_at rfl).alloc _).alloc _
  case rest =>
    obtain ⟨rfl, rfl, b5, b6, b7, rfl, rfl, rfl, HY⟩ := hcut
    obtain ⟨w1, rfl⟩ : ∃ x : World, x = wc := ⟨_, rfl⟩
    have K1 := Lib.hid (HK0.out.trans HY.out.2.2.2 (fun _ x => x.elim))
    have R1 := Lib.hid (HR0.out.keep HY.out.2.2.2 (fun x => x))
    have H0 := Lib.hid (rising_any Lp m d l w1 (HL.out.1.new_ K1.out) (Nat.le_trans hb K1.out.size))
    have hb2 : w.heap.size + 1 < w1.heap.size := R1.out.lt
    clear f0 f1 f2 f3 f4 hlt HB0 HR0 HK0
    cases hr : risingL l with
    | none =>
      rw [hr] at H0
      clear hr
      go_wp2_with fail
      refine H0.out.mono ?_
      rintro e w2 ⟨rfl, hk⟩
      have HK := Lib.hid hk
      have HR2 := Lib.hid (R1.out.keep hk (fun x => x))
      have c2' := HR2.out.cell 0
      have z2' := HR2.out.frozen 0
      simp only [List.getElem?_toArray, List.getElem?_cons_zero] at c2'
      clear hk
      go_wp2
      exact ⟨_, results_cell1 rfl _ _ ⟨w.heap.size + 1, 0, none⟩ (.bool true) rfl (Try.isAgg4 _) (blk_true HR2.out _), rfl, (K1.out.trans HK.out (fun _ x => x.elim)).setCell (p := ⟨w.heap.size + 1, 0, none⟩) (.inr (Nat.le_succ _)) _⟩
    | some out =>
      rw [hr] at H0
      obtain ⟨hl4, hout, hok⟩ := risingL_some hr
      have HR := Lib.hid (show _ ∧ _ ∧ _ from ⟨hout, hok, risingL_sorted hr⟩)
      clear hr hout hok
      go_wp2_with fail
      refine H0.out.mono ?_
      rintro e w2 ⟨A1, c1, rfl, hc1, ho1, hok1, hl1⟩
      have HK2 := Lib.hid (K1.out.trans ho1.keepTo (fun _ x => x.elim))
      have HB2 := Lib.hid (show Blk w2 (w.heap.size + 1) 4 #[.bool false] ∧ Blk w2 b5 3 #[.int .i64 stop] ∧ Blk w2 b6 23 #[.slice A n c] ∧ Blk w2 b7 23 #[.slice B n2 c2] from
        ⟨R1.out.keep ho1.keepTo (fun x => x), HY.out.1.keep ho1.keepTo (fun x => x), HY.out.2.1.keep ho1.keepTo (fun x => x), HY.out.2.2.1.keep ho1.keepTo (fun x => x)⟩)
      have HO := Lib.hid (show _ ∧ _ from ⟨OwnP.pairs ho1, hok1⟩)
      obtain ⟨rb2, rb5, rb6, rb7⟩ := HB2.out
      have c2' := rb2.cell 0
      have z2' := rb2.frozen 0
      have c6' := rb6.cell 0
      have c7' := rb7.cell 0
      simp only [List.getElem?_toArray, List.getElem?_cons_zero] at c2' c6' c7'
      have HAL := Lib.hid (rallowed_any A B n c n2 c2 key value w2 (HL.out.2.1.new_ HK2.out) (HL.out.2.2.new_ HK2.out))
      clear ho1 hok1 H0 K1 R1 HY rb2 rb5 rb6 rb7
      cases hal : allowedB key value with
      | false =>
        rw [hal] at HAL
        clear hal
        go_wp2_with (go_at_call 40; refine HAL.out.mono ?_; rintro e w' ⟨rfl, rfl⟩)
        exact ⟨_, results_cell1 rfl _ _ ⟨w.heap.size + 1, 0, none⟩ (.bool true) rfl (Try.isAgg4 _) (blk_true HB2.out.1 _), rfl, HK2.out.setCell (p := ⟨w.heap.size + 1, 0, none⟩) (.inr (Nat.le_succ _)) _⟩
      | true =>
        rw [hal] at HAL
        have HKV := Lib.hid (keyOk_of hal)
        clear hal
        go_upto_region 6 with (first
          | (go_at_call 40; refine HAL.out.mono ?_; rintro e w' ⟨rfl, rfl⟩)
          | (go_at_call 20; refine (new_any seed _).mono ?_; rintro e w3 ⟨rfl, rfl⟩))
        obtain ⟨w3, hw3⟩ : ∃ x, x = (w2.alloc (.cells #[.bool true, .int .u64 seed, .pointer none] 106)).alloc (.cells #[.pointer (some ⟨w2.heap.size, 0, none⟩)] 38) := ⟨_, rfl⟩
        rw [← hw3]
        have hbw2 : base ≤ w2.heap.size := Nat.le_trans hb HK2.out.size
        have k23 : Keep No w2 w3 := hw3 ▸ ((Keep.refl No w2).alloc _).alloc _
        have hz3 : w3.heap.size = w2.heap.size + 2 := by rw [hw3]; simp
        have M3 : MSt base w3 w2.heap.size seed [] [w2.heap.size] := hw3 ▸ (MSt.made hbw2).new_ ((Keep.refl No _).alloc _)
        have hst3 : YSt w3.heap.size w w3 b5 b6 b7 (w2.heap.size + 1) w2.heap.size stop A n c B n2 c2 := by
          refine ⟨HK2.out.trans k23 (fun _ x => x.elim), HB2.out.1.keep k23 (fun x => x), HB2.out.2.1.keep k23 (fun x => x), HB2.out.2.2.1.keep k23 (fun x => x), HB2.out.2.2.2.keep k23 (fun x => x), ?_, ?_, ?_, ?_, ?_, ?_⟩
          · rw [hw3]; exact blk_at (by simp)
          · have := HB2.out.1.lt; omega
          · have := HB2.out.2.1.lt; omega
          · have := HB2.out.2.2.1.lt; omega
          · have := HB2.out.2.2.2.lt; omega
          · omega
        have hP := lput_any (back := false) (d := d) M3 (HL.out.1.new_ hst3.k) HR.out.2.1 (by simp; omega) (Nat.le_trans hbw2 k23.size)
        rw [if_neg (by decide), ← HR.out.1] at hP
        have HP := Lib.hid hP
        have q10 : w3.cell? ⟨w2.heap.size + 1, 0, none⟩ = some (.pointer (some ⟨w2.heap.size, 0, none⟩)) := by simpa using hst3.r10.cell 0
        have HST3 := Lib.hid hst3
        have HM3 := Lib.hid (show _ ∧ _ from ⟨M3.mut, k23⟩)
        have hw02 : w.heap.size ≤ w2.heap.size := HK2.out.size
        clear hw3 hP k23 M3 hst3 c2' z2' c6' c7' HAL
        go_wp2_with (go_at_call 21; refine HP.out.mono ?_; rintro e w4 ⟨rfl, F4, m4, k4, f4⟩)
        have hst4 := HST3.out.mut_ k4 (fun b hb => by simp [In] at hb; omega) HM3.out.1
        have HM4 := Lib.hid (show MSt base w4 w2.heap.size seed out F4 ∧ ∀ b ∈ F4, w.heap.size ≤ b from ⟨m4, fun b hb => (f4 b hb).elim (fun h => by simp at h; omega) (fun h => by omega)⟩)
        have HST4 := Lib.hid hst4
        have HO4 := Lib.hid (show Pairs base w4 A1 out.length out ∧ Okay out from ⟨(HO.out.1.new_ HM3.out.2).keep k4 HM3.out.1, HO.out.2⟩)
        have hz4 := k4.size
        clear m4 k4 f4 hst4 HP HO HM3 HST3 q10 HB2 HK2
        obtain ⟨w5, hw5⟩ : ∃ x, x = w4.alloc (.cells #[.int .i64 0] 3) := ⟨_, rfl⟩
        rw [← hw5]
        have k45 : Keep No w4 w5 := hw5 ▸ (Keep.refl No w4).alloc _
        have hz5 : w5.heap.size = w4.heap.size + 1 := by rw [hw5]; simp
        have HM5 := Lib.hid (show _ ∧ _ from ⟨HM4.out.1.new_ k45, HM4.out.2⟩)
        have HST5 := Lib.hid (HST4.out.new_ k45)
        have HO5 := Lib.hid (show _ ∧ _ from ⟨HO4.out.1.new_ k45, HO4.out.2⟩)
        have HB5 := Lib.hid (show Blk w5 w4.heap.size 3 #[.int .i64 0] from hw5 ▸ blk_at rfl)
        clear hw5 k45 HM4 HST4 HO4
        obtain ⟨b13, hb13⟩ : ∃ x, x = w4.heap.size := ⟨_, rfl⟩
        obtain ⟨lim, hlim⟩ : ∃ x, x = w3.heap.size := ⟨_, rfl⟩
        rw [← hlim] at HST5 hz4
        rw [← hb13] at HB5 hz4 hz5 ⊢
        obtain ⟨mb, hmb⟩ : ∃ x, x = w2.heap.size := ⟨_, rfl⟩
        obtain ⟨b10, hb10⟩ : ∃ x, x = w2.heap.size + 1 := ⟨_, rfl⟩
        rw [← hmb] at HM5
        rw [← hb10, ← hmb] at HST5
        rw [← hb10, ← hmb]
        have hbl : base ≤ lim := by omega
        clear hlim hb13 hz3 hmb hb10 hbw2 hw02
        have q13 : w5.cell? ⟨b13, 0, none⟩ = some (.int .i64 0) := by simpa using HB5.out.cell 0
        have q10 : w5.cell? ⟨b10, 0, none⟩ = some (.pointer (some ⟨mb, 0, none⟩)) := by simpa using HST5.out.r10.cell 0
        have l10 := HST5.out.r10.lt
        have q10a : (w5.alloc (.cells #[.slice none 0 0] 35)).cell? ⟨b10, 0, none⟩ = some (.pointer (some ⟨mb, 0, none⟩)) := (World.cell?_alloc_lt w5 _ ⟨b10, 0, none⟩ l10).trans q10
        have HZ5 := Lib.hid (show _ ∧ _ from ⟨hz5, hz4⟩)
        clear hz5 hz4
        refine wp_loop_rounds 3 ?_
        rw [rounds_succ]
        go_wp2_with (go_at_call 41; refine (all_any _ _).mono ?_; rintro e w' ⟨rfl, rfl⟩)
        obtain ⟨W0, hW0⟩ : ∃ x, x = (w5.alloc (.cells #[.slice none 0 0] 35)).alloc (.cells #[.pointer (some ⟨mb, 0, none⟩)] 38) := ⟨_, rfl⟩
        rw [← hW0]
        have k50 : Keep No w5 W0 := hW0 ▸ ((Keep.refl No w5).alloc _).alloc _
        have hz0' : W0.heap.size = w5.heap.size + 2 := by rw [hW0]; simp
        have hB14 : Blk W0 w5.heap.size 35 #[.slice none 0 0] := hW0 ▸ (blk_at rfl).alloc _
        have hBX : Blk W0 (w5.heap.size + 1) 38 #[.pointer (some ⟨mb, 0, none⟩)] := hW0 ▸ blk_at (by simp)
        obtain ⟨z5, z4⟩ := HZ5.out
        have hI0 : YI ⟨lim, base, w, W0, b5, b6, b7, b10, b13, w5.heap.size, mb, stop, 0, A, n, c, B, n2, c2, seed, []⟩ (yat out key value) [] W0 :=
          ⟨HST5.out.new_ k50, HB5.out.keep k50 (fun x => x), ⟨by dsimp only; omega, by dsimp only; omega⟩, ⟨by dsimp only; omega, by dsimp only; omega⟩, ⟨by dsimp only; omega, Nat.le_refl _⟩, fun D hD => (by cases hD), Keep.refl _ _, W0.heap.size, _, F4, hB14, fun z hz => (by cases hz), fun _ => rfl, Nat.le_refl _, Nat.le_refl _, OwnPI.start (Nat.le_refl _),
            (HM5.out.1.new_ k50).clean (fun b hb => hb.1), fun b hb => ⟨HM5.out.2 b hb, .inl ⟨Nat.lt_of_lt_of_le (HM5.out.1.lt hb) k50.size, (HM5.out.1.new_ k50).mut b hb⟩⟩⟩
        have hbx0 : W0.cell? ⟨w5.heap.size + 1, 0, none⟩ = some (.pointer (some ⟨mb, 0, none⟩)) := by simpa using hBX.cell 0
        have hl0 : lim ≤ W0.heap.size := by omega
        refine range0 hI0 (HM5.out.1.new_ k50) hbx0 (by omega) (by omega) hbl HL.out.2.1 HL.out.2.2 HKV.out hl1 ?_
        intro e D xs W1 he hD hDd hI1 hR1
        refine exit_or he ?_
        dsimp only
        obtain ⟨A9, c9, F1, hc9, hB9, hP9, hM9, hF9⟩ := hI1.done
        have p14 : W1.cell? ⟨w5.heap.size, 0, none⟩ = some (.slice A9 xs.length c9) := by simpa using hB9.cell 0
        have p13 : W1.cell? ⟨b13, 0, none⟩ = some (.int .i64 0) := by simpa using hI1.t13.cell 0
        have HI1 := Lib.hid (show _ ∧ _ ∧ _ ∧ _ from ⟨hI1, hP9, hM9, hF9⟩)
        have HO1 := Lib.hid (show Pairs base W1 A1 out.length out ∧ Okay out from ⟨pairs_q (HO5.out.1.new_ k50) hI1.kq hB14 (by dsimp only; omega), HO5.out.2⟩)
        have HD1 := Lib.hid (show _ ∧ _ ∧ _ from ⟨hD, hDd, hR1⟩)
        have HZ0 := Lib.hid (show _ ∧ _ from ⟨hz0', k50⟩)
        clear he hD hDd hI1 hR1 hB9 hP9 hM9 hF9 hI0 hbx0 hB14 hBX hz0' k50 hW0 q13 q10 q10a l10 z5 z4
        go_wp2
        obtain ⟨W2, hW2⟩ : ∃ x, x = W1.alloc (.cells #[.int .i64 1] 3) := ⟨_, rfl⟩
        rw [← hW2]
        have k12 : Keep No W1 W2 := hW2 ▸ (Keep.refl No W1).alloc _
        have hz2' : W2.heap.size = W1.heap.size + 1 := by rw [hW2]; simp
        have hB13 : Blk W2 W1.heap.size 3 #[.int .i64 1] := hW2 ▸ blk_at rfl
        obtain ⟨L2, hL2⟩ : ∃ x, x = yat out key value xs.length := ⟨_, rfl⟩
        have HL2 := Lib.hid hL2
        have hM2 : MSt base W2 mb seed L2 F1 := hL2 ▸ HI1.out.2.2.1.new_ k12
        have hst2 : YSt lim w W2 b5 b6 b7 b10 mb stop A n c B n2 c2 := HI1.out.1.st.new_ k12
        have hP2 : Pairs base W2 A9 xs.length (prs xs) := HI1.out.2.1.new_ k12
        have q13 : W2.cell? ⟨W1.heap.size, 0, none⟩ = some (.int .i64 1) := by simpa using hB13.cell 0
        have l10 := hst2.r10.lt
        have q10 : W2.cell? ⟨b10, 0, none⟩ = some (.pointer (some ⟨mb, 0, none⟩)) := by simpa using hst2.r10.cell 0
        have q10a : (W2.alloc (.cells #[.slice none 0 0] 35)).cell? ⟨b10, 0, none⟩ = some (.pointer (some ⟨mb, 0, none⟩)) := (World.cell?_alloc_lt W2 _ ⟨b10, 0, none⟩ l10).trans q10
        have hDW2 : W2.heap[D]? = some (.deferred (some [])) := (k12.block D (loop_lt HD1.out.2.1) (fun x => x)).trans HD1.out.2.1
        have HS2 := Lib.hid (show _ ∧ _ ∧ _ ∧ _ ∧ _ ∧ _ from ⟨hst2, hM2, hP2, hB13, hDW2, hz2'⟩)
        have hlen2 : L2.length ≤ 401 := by rw [hL2]; have := yat_length out key value xs.length; omega
        have HK12 := Lib.hid k12
        clear hst2 hM2 hP2 hB13 hDW2 hz2' hW2 hL2 p13 p14 k12
        rw [rounds_succ]
        go_wp2_with (go_at_call 41; refine (all_any _ _).mono ?_; rintro e w' ⟨rfl, rfl⟩)
        obtain ⟨W3, hW3⟩ : ∃ x, x = (W2.alloc (.cells #[.slice none 0 0] 35)).alloc (.cells #[.pointer (some ⟨mb, 0, none⟩)] 38) := ⟨_, rfl⟩
        rw [← hW3]
        have k23 : Keep No W2 W3 := hW3 ▸ ((Keep.refl No W2).alloc _).alloc _
        have hz3' : W3.heap.size = W2.heap.size + 2 := by rw [hW3]; simp
        have hB14 : Blk W3 W2.heap.size 35 #[.slice none 0 0] := hW3 ▸ (blk_at rfl).alloc _
        have hBX : Blk W3 (W2.heap.size + 1) 38 #[.pointer (some ⟨mb, 0, none⟩)] := hW3 ▸ blk_at (by simp)
        obtain ⟨s1, s2, s3, s4, s5, s6⟩ := HS2.out
        obtain ⟨z0, z0'⟩ := HZ0.out
        have hkW := HI1.out.1.k0.2
        have hlimW : lim ≤ W1.heap.size := by have h9 := HI1.out.1.l13; dsimp only at h9 hkW; omega
        have hI0 : YI ⟨lim, base, w, W3, b5, b6, b7, b10, W1.heap.size, W2.heap.size, mb, stop, 1, A, n, c, B, n2, c2, seed, [D]⟩ (fun _ => L2) [] W3 :=
          ⟨s1.new_ k23, s4.keep k23 (fun x => x), ⟨hlimW, by dsimp only; omega⟩, ⟨by dsimp only; omega, by dsimp only; omega⟩, ⟨by dsimp only; omega, Nat.le_refl _⟩, fun D' hD' => (by
              simp only [List.mem_singleton] at hD'
              subst hD'
              exact ⟨Nat.lt_of_lt_of_le (loop_lt s5) k23.size, (k23.block _ (loop_lt s5) (fun x => x)).trans s5⟩), Keep.refl _ _, W3.heap.size, _, F1, hB14, fun z hz => (by cases hz), fun _ => rfl, Nat.le_refl _, Nat.le_refl _, OwnPI.start (Nat.le_refl _),
            (s2.new_ k23).clean (fun b hb => hb.1), fun b hb => ⟨HI1.out.2.2.2 b hb, .inl ⟨Nat.lt_of_lt_of_le (s2.lt hb) k23.size, (s2.new_ k23).mut b hb⟩⟩⟩
        have hbx0 : W3.cell? ⟨W2.heap.size + 1, 0, none⟩ = some (.pointer (some ⟨mb, 0, none⟩)) := by simpa using hBX.cell 0
        refine range1 hI0 (s2.new_ k23) hbx0 (by omega) (by omega) hbl hlen2 ?_
        intro D2 xs2 W4 hD2 hDd2 hI2 hR2
        have hDlt : D < D2 := by have := loop_lt HD1.out.2.1; omega
        refine exit_or (.inl rfl) ?_
        dsimp only
        obtain ⟨A8, c8, F2, hc8, hB8, hP8, hM8, hF8⟩ := hI2.done
        have hxs2 : xs2.length = L2.length := by rw [← hR2]; simp [prs]
        rw [hR2] at hP8
        have p14 : W4.cell? ⟨W2.heap.size, 0, none⟩ = some (.slice A8 xs2.length c8) := by simpa using hB8.cell 0
        have p13 : W4.cell? ⟨W1.heap.size, 0, none⟩ = some (.int .i64 1) := by simpa using hI2.t13.cell 0
        obtain ⟨W5, hW5⟩ : ∃ x, x = W4.alloc (.cells #[.int .i64 2] 3) := ⟨_, rfl⟩
        have k45 : Keep No W4 W5 := hW5 ▸ (Keep.refl No W4).alloc _
        have q13' : (W4.alloc (.cells #[.int .i64 2] 3)).cell? ⟨W4.heap.size, 0, none⟩ = some (.int .i64 2) := by simp
        have HE := Lib.hid (show YSt lim w W5 b5 b6 b7 b10 mb stop A n c B n2 c2 ∧ MSt base W5 mb seed L2 F2 ∧ Pairs base W5 A9 xs.length (prs xs) ∧ Pairs base W5 A8 xs2.length L2 ∧ Pairs base W5 A1 out.length out ∧ W5.heap[D]? = some (.deferred (some [])) ∧ W5.heap[D2]? = some (.deferred (some [])) from by
          refine ⟨hI2.st.new_ k45, hM8.new_ k45, (pairs_q (s3.new_ k23) hI2.kq hB14 (by dsimp only; omega)).new_ k45, hP8.new_ k45, (pairs_q ((HO1.out.1.new_ ?_).new_ k23) hI2.kq hB14 (by dsimp only; omega)).new_ k45, ?_, ?_⟩
          · exact HK12.out
          · exact (k45.block _ (loop_lt (hI2.hd D (by simp)).2) (fun x => x)).trans (hI2.hd D (by simp)).2
          · exact (k45.block _ (loop_lt hDd2) (fun x => x)).trans hDd2)
        have HD2 := Lib.hid (show _ ∧ _ ∧ _ from ⟨hD2, hxs2, HD1.out.1⟩)
        clear hI2 hM8 hP8 hF8 hB8 hD2 hDd2 hR2 hI0 hbx0 hB14 hBX s1 s2 s3 s4 s5 s6 z0 z0' k23 hz3' q13 q10 q10a l10
        go_wp2
        rw [← hW5] at q13' ⊢
        have hb5W : base ≤ W5.heap.size := Nat.le_trans hb HE.out.1.k.size
        have hxp : xs.length = (prs xs).length := by simp [prs]
        have hRR : prs xs = out.take xs.length ∧ xs.length ≤ out.length ∧ (0 < out.length → 1 ≤ xs.length) ∧ ((0 < stop ∧ stop < (out.length : Int) ∧ stop = (xs.length : Int)) ∨ (¬ (0 < stop ∧ stop < (out.length : Int)) ∧ xs.length = out.length)) := by
          rcases HD1.out.2.2 with ⟨h1, h2⟩ | ⟨h1, h2, h3⟩
          · have h4 : xs.length = out.length := by rw [hxp, h1]
            exact ⟨by rw [h4, List.take_length]; exact h1, by omega, fun h => by omega, .inr ⟨by omega, h4⟩⟩
          · have h4 := h1.length_le
            have h5 : 1 ≤ xs.length := by cases xs with
              | nil => exact absurd rfl h3
              | cons => simp
            refine ⟨?_, by omega, fun _ => h5, ?_⟩
            · have := List.prefix_iff_eq_take.1 h1
              rw [← hxp] at this
              exact this
            · by_cases h6 : stop < (out.length : Int)
              · exact .inl ⟨by omega, h6, h2.symm⟩
              · exact .inr ⟨by omega, by omega⟩
        obtain ⟨hr1, hr2, hr3, hr4⟩ := hRR
        have q5 : W5.cell? ⟨b5, 0, none⟩ = some (.int .i64 stop) := by simpa using HE.out.1.r5.cell 0
        have q6 : W5.cell? ⟨b6, 0, none⟩ = some (.slice A n c) := by simpa using HE.out.1.r6.cell 0
        have q7 : W5.cell? ⟨b7, 0, none⟩ = some (.slice B n2 c2) := by simpa using HE.out.1.r7.cell 0
        have HR1 := Lib.hid hr1
        have HR4 := Lib.hid hr4
        obtain ⟨r, hr⟩ : ∃ r, r = xs.length := ⟨_, rfl⟩
        rw [← hr] at hr2 hr3 ⊢
        have HRX := Lib.hid hr
        clear hr1 hr4 hr hW5 p13 p14 k45 hkW hlimW hxp hxs2
        rw [rounds_succ]
        go_upto_region 28 with fail
        obtain ⟨C, hC⟩ : ∃ C, C = decide (0 < stop ∧ stop < (out.length : Int)) := ⟨_, rfl⟩
        have HC := Lib.hid hC
        clear hC
        go_cut [111] from 105 (fun s111 wx => s111 = .bool C ∧ W5 = wx)
        case first =>
          by_cases h1 : 0 < stop
          · have d1 : decide (stop > 0) = true := decide_eq_true h1
            by_cases h2 : stop < (out.length : Int)
            · have d2 : decide (stop < (out.length : Int)) = true := decide_eq_true h2
              have hx : C = true := by rw [HC.out]; exact decide_eq_true ⟨h1, h2⟩
              subst hx
              go_wp2_with fail
              go_meet
              exact ⟨rfl, rfl⟩
            · have d2 : decide (stop < (out.length : Int)) = false := decide_eq_false h2
              have hx : C = false := by rw [HC.out]; exact decide_eq_false (fun h => h2 h.2)
              subst hx
              go_wp2_with fail
              go_meet
              exact ⟨rfl, rfl⟩
          · have d1 : decide (stop > 0) = false := decide_eq_false h1
            have hx : C = false := by rw [HC.out]; exact decide_eq_false (fun h => h1 h.1)
            subst hx
            go_wp2_with fail
            go_meet
            exact ⟨rfl, rfl⟩
        case rest =>
          obtain ⟨rfl, rfl⟩ := hcut
          go_upto_if 111 with fail
          go_cut [17] from 105 (fun s17 wx => s17 = .int .i64 (r : Int) ∧ W5 = wx)
          case first =>
            cases hC2 : C with
            | true =>
              have h1 := HC.out
              rw [hC2] at h1
              have h2 := of_decide_eq_true h1.symm
              have h3 : stop = (r : Int) := by
                rcases HR4.out with h | h
                · rw [HRX.out]; exact h.2.2
                · exact absurd h2 h.1
              subst hC2
              subst h3
              clear h1 h2
              go_wp2_with fail
              go_meet
              exact ⟨rfl, rfl⟩
            | false =>
              have h1 := HC.out
              rw [hC2] at h1
              have h2 := of_decide_eq_false h1.symm
              have h3 : r = out.length := by
                rcases HR4.out with h | h
                · exact absurd ⟨h.1, h.2.1⟩ h2
                · rw [HRX.out]; exact h.2
              have H3 := Lib.hid h3
              subst hC2
              clear h1 h2 h3
              go_wp2_with fail
              go_meet
              exact ⟨by rw [H3.out], rfl⟩
          case rest =>
            obtain ⟨rfl, rfl⟩ := hcut
            clear q13' q5
            have hLM := Lib.hid (show yMid out key value r r = L2 by rw [yMid, if_neg (Nat.lt_irrefl _), HL2.out, HRX.out])
            go_upto_if 116 with fail
            go_cut [18] from 19 (fun s18 wx => ∃ (A18 : Option Addr) (c18 : Nat), s18 = .slice A18 L2.length c18 ∧ L2.length ≤ c18 ∧ Hid (Pairs base wx A18 L2.length L2) ∧ Hid (Keep No W5 wx))
            case first =>
              by_cases h0 : 0 < out.length
              · have h1 := hr3 h0
                have HPU := Lib.hid (rput_any A1 A B out.length c1 n c n2 c2 out key value W5 HE.out.2.2.2.2.1 (HL.out.2.1.new_ HE.out.1.k) (HL.out.2.2.new_ HE.out.1.k) HO1.out.2.small (by have := HKV.out.2.1; have := (HL.out.2.1).len; omega) (by have := HKV.out.2.2; have := (HL.out.2.2).len; omega) (by omega) hc1 hb5W)
                have hpl := length_putL out key value
                have HM0 := Lib.hid (show _ ∧ _ from ⟨(show putL out key value = yMid out key value r 0 by rw [yMid, if_pos (by omega)]), HO1.out.2.put HKV.out⟩)
                obtain ⟨k, hk⟩ : ∃ k, k = putL out key value := ⟨_, rfl⟩
                rw [← hk] at HPU hpl HM0
                clear hk
                go_wp2_with (go_at_call 45; refine HPU.out.mono ?_; rintro e w' ⟨A18, c18, rfl, hc18, ho18⟩)
                have HP18 := Lib.hid ho18.pairs
                have HK18 := Lib.hid ho18.keepTo
                clear ho18 HPU q6 q7
                go_loopw [18, 19] (fun v18 v19 wr => ∃ (j : Nat) (A18 : Option Addr) (c18 : Nat) (k : PairL), j ≤ r ∧ v19 = .int .i64 j ∧ v18 = .slice A18 k.length c18 ∧ k.length ≤ c18 ∧ k.length ≤ 402 + j ∧ Hid (Pairs base wr A18 k.length k) ∧ Hid (Okay k) ∧ Hid (k = yMid out key value r j) ∧ Hid (Keep No W5 wr)) (fun _ i _ => r - (intOf i).toNat)
                case atStart => exact ⟨0, A18, c18, k, Nat.zero_le _, rfl, rfl, hc18, by omega, HP18, Lib.hid HM0.out.2, Lib.hid HM0.out.1, HK18⟩
                case round =>
                  clear HP18 HM0 HK18 hc18 hpl
                  obtain ⟨j, A19, c19, k, hj, rfl, rfl, hkc, hkl, HP, HOK, HM, HK⟩ := hrel
                  by_cases hjr : j < r
                  · have hjo : j < out.length := by omega
                    have hst6 := HE.out.1.new_ HK.out
                    have q6 : wr.cell? ⟨b6, 0, none⟩ = some (.slice A n c) := by simpa using hst6.r6.cell 0
                    obtain ⟨ad, A3, c3, A4, c4, eA, him, e0, e1, b1, b2⟩ := (HE.out.2.2.2.2.1.new_ HK.out).at_ hjo
                    have hokp := HO1.out.2 _ (List.getElem_mem hjo)
                    have hp1 := hokp.2.1
                    have hp2 := hokp.2.2
                    have hkn : n ≤ 64 := by have := HKV.out.2.1; have := HL.out.2.1.len; omega
                    have HSM := Lib.hid (fun q => same_any (b1 := base) (b2 := base) A3 A out[j].1.length c3 n c out[j].1 key (wr.drewN q) (b1.drewN q) ((HL.out.2.1.new_ hst6.k).drewN q) (by omega) (by omega))
                    have hab := him.lt
                    have hb6l := hst6.r6.lt
                    have i0 : (0 : Int) ≤ (j : Int) := by omega
                    have i1 : (j : Int) < (out.length : Int) := by omega
                    have s1 : IntKind.i64.wrap ((r : Int) - 1) = (r : Int) - 1 := IntWalk.i64_in _ (by omega)
                    have HNO := Lib.hid (show (out[j].1 ≠ key ∨ j + 1 ≠ r) → k = yMid out key value r (j + 1) from fun h => by
                      rw [HM.out]
                      by_cases hjl : j + 1 = r
                      · exact ((yMid_last HR.out.2.2 hjl hjo).2 (h.resolve_right (fun h => h hjl))).symm
                      · exact (yMid_step (by omega)).symm)
                    have HYES := Lib.hid (show out[j].1 = key → j + 1 = r → putL k key out[j].2 = yMid out key value r (j + 1) from fun h hjl => by
                      rw [HM.out]
                      exact ((yMid_last HR.out.2.2 hjl hjo).1 h).symm)
                    have HB2' := Lib.hid b2
                    have HOKP := Lib.hid hokp
                    have HST6 := Lib.hid hst6.k
                    clear hst6 him b1 b2 hokp HM
                    generalize out[j] = p at HSM HNO HYES HB2' HOKP e0 e1 hp1 hp2
                    subst eA
                    cases hbk : decide (p.1 = key) with
                    | false =>
                      have hne := of_decide_eq_false hbk
                      have HK' := Lib.hid (HNO.out (.inl hne))
                      rw [hbk] at HSM
                      clear hbk hne HNO HYES s1
                      go_wp2_with fail
                      go_quiet ((go_at_call 18; exact quiet_drawn2 (HSM.out _)))
                      go_wp2
                      go_roundw
                      case rel => exact ⟨j + 1, A19, c19, k, by omega, by go_num, rfl, hkc, by omega, Lib.hid (Pairs.new_ HP.out ((Keep.refl No wr).drewN _)), HOK, HK', Lib.hid (HK.out.drewN _)⟩
                      case measure => simp [intOf]; omega
                    | true =>
                      have heq := of_decide_eq_true hbk
                      rw [hbk] at HSM
                      by_cases hjl : j + 1 = r
                      · have HK' := Lib.hid (HYES.out heq hjl)
                        have d1 : ((j : Int) == (r : Int) - 1) = true := by simp; omega
                        clear hbk heq HNO HYES hjl
                        go_wp2_with fail
                        go_quiet ((go_at_call 18; exact quiet_drawn2 (HSM.out _)))
                        clear s1
                        obtain ⟨wq, hwq⟩ : ∃ x, x = wr.drewN nq := ⟨_, rfl⟩
                        rw [← hwq]
                        have kq : Keep No wr wq := hwq ▸ (Keep.refl No wr).drewN nq
                        have q6' : wq.cell? ⟨b6, 0, none⟩ = some (.slice A n c) := hwq ▸ q6
                        have e1' : wq.cell? ⟨(ad.add (j * 2)).block, (ad.add (j * 2)).off + 1, none⟩ = some (.slice A4 p.2.length c4) := hwq ▸ e1
                        have hbq := Nat.le_trans hb5W (HK.out.trans kq (fun _ x => x.elim)).size
                        have HPU := Lib.hid (rput_any A19 A A4 k.length c19 n c _ c4 k key p.2 wq.drew ((HP.out.new_ kq).new_ ((Keep.refl No wq).drew)) ((HL.out.2.1.new_ HST6.out).new_ kq.drew) (HB2'.out.new_ kq.drew) HOK.out.small (by omega) (by omega) (by omega) hkc hbq)
                        have hpl := length_putL k key p.2
                        have HO2 := Lib.hid (HOK.out.put (k := key) (v := p.2) ⟨HKV.out.1, HKV.out.2.1, HOKP.out.2.2⟩)
                        have HKQ := Lib.hid (HK.out.trans kq.drew (fun _ x => x.elim))
                        have hbwr := Nat.lt_of_lt_of_le hb6l kq.size
                        have habq := Nat.lt_of_lt_of_le hab kq.size
                        clear hwq kq q6 e1 e0 HP HSM hb6l hab
                        go_wp2_with fail
                        go_region_held3 (fun w' => w'.cell? ⟨b6, 0, none⟩ = some (.slice A n c) ∧ w'.cell? ⟨(ad.add (j * 2)).block, (ad.add (j * 2)).off + 1, none⟩ = some (.slice A4 p.2.length c4))
                          (first
                            | exact ⟨(hkd.cell (p := ⟨b6, 0, none⟩) hbwr (fun x => x)).trans q6', (hkd.cell (p := ⟨(ad.add (j * 2)).block, (ad.add (j * 2)).off + 1, none⟩) (by show (ad.add (j * 2)).block < _; rw [block_of_add]; exact habq) (fun x => x)).trans e1'⟩
                            | exact ⟨q6', e1'⟩
                            | go_keep)
                          ((go_at_call 45; refine HPU.out.mono ?_; rintro e w8 ⟨A21, c21, rfl, hc21, ho21⟩; have hkd := ho21.keepTo))
                        have HN8 := Lib.hid (show _ ∧ _ from ⟨ho21.pairs, HKQ.out.trans hkd (fun _ x => x.elim)⟩)
                        clear ho21 hkd HPU q6' e1'
                        go_wp2
                        go_roundw
                        case rel => exact ⟨j + 1, A21, c21, putL k key p.2, by omega, by go_num, rfl, hc21, by omega, Lib.hid HN8.out.1, HO2, HK', Lib.hid HN8.out.2⟩
                        case measure => simp [intOf]; omega
                      · have HK' := Lib.hid (HNO.out (.inr hjl))
                        have d1 : ((j : Int) == (r : Int) - 1) = false := by simp; omega
                        clear hbk heq HNO HYES hjl
                        go_wp2_with fail
                        go_quiet ((go_at_call 18; exact quiet_drawn2 (HSM.out _)))
                        clear s1
                        go_wp2
                        go_roundw
                        case rel => exact ⟨j + 1, A19, c19, k, by omega, by go_num, rfl, hkc, by omega, Lib.hid (Pairs.new_ HP.out ((Keep.refl No wr).drewN _)), HOK, HK', Lib.hid (HK.out.drewN _)⟩
                        case measure => simp [intOf]; omega
                  · obtain rfl : j = r := by omega
                    have hkL := HM.out.trans hLM.out
                    subst hkL
                    go_wp2
                    go_meet
                    exact ⟨A19, c19, rfl, hkc, HP, HK⟩
              · have h1 : r = 0 := by omega
                have h2 : out = L2 := by
                  rw [← hLM.out, h1, yMid, if_neg (Nat.lt_irrefl _)]; rfl
                have H2 := Lib.hid h2
                clear h1 h2
                go_wp2_with fail
                go_meet
                exact ⟨A1, c1, by rw [← H2.out], by rw [← H2.out]; exact hc1, Lib.hid (by rw [← H2.out]; exact HE.out.2.2.2.2.1), Lib.hid (Keep.refl _ _)⟩
            case rest =>
              obtain ⟨A18, c18, rfl, hc18, HP18, HK18⟩ := hcut
              obtain ⟨W6, rfl⟩ : ∃ z : World, z = wc := ⟨_, rfl⟩
              clear q6 q7
              have hr5 : prs xs = out.take r := by rw [HRX.out]; exact HR1.out
              have HPS := Lib.hid (show Pairs base W6 A9 r (out.take r) ∧ Pairs base W6 A1 r (out.take r) ∧ Pairs base W6 A8 L2.length L2 ∧ MSt base W6 mb seed L2 F2 from by
                refine ⟨?_, (pairs_cut HE.out.2.2.2.2.1 hr2 hc1 rfl).1.elim (fun ys h => Pairs.new_ ⟨ys, h⟩ HK18.out), ?_, HE.out.2.1.new_ HK18.out⟩
                · have := HE.out.2.2.1.new_ HK18.out
                  rw [← HRX.out, hr5] at this
                  exact this
                · have := HE.out.2.2.2.1.new_ HK18.out
                  rw [HD2.out.2.1] at this
                  exact this)
              have hL2ok : Okay L2 := HE.out.2.1.okay
              have HSS := Lib.hid hL2ok.small
              have HSO := Lib.hid (show Small (out.take r) from fun p hp => HO1.out.2.small p (List.mem_of_mem_take hp))
              have hst6 := HE.out.1.new_ HK18.out
              have HST6 := Lib.hid hst6
              have HDD := Lib.hid (show W6.heap[D]? = some (.deferred (some [])) ∧ W6.heap[D2]? = some (.deferred (some [])) from ⟨(HK18.out.block D (loop_lt HE.out.2.2.2.2.2.1) (fun x => x)).trans HE.out.2.2.2.2.2.1, (HK18.out.block D2 (loop_lt HE.out.2.2.2.2.2.2) (fun x => x)).trans HE.out.2.2.2.2.2.2⟩)
              have hb6W : base ≤ W6.heap.size := Nat.le_trans hb5W HK18.out.size
              clear hr5 hL2ok hst6
              go_wp2_with fail
              refine (samepairs_any (b1 := base) (b2 := base) A9 A1 r c9 r c1 (out.take r) W6 HPS.out.1 HPS.out.2.1 HSO.out (by omega)).mono ?_
              rintro e w7 ⟨rfl, q1, rfl⟩
              go_wp2_with fail
              have q10 : (W6.drewN q1).cell? ⟨b10, 0, none⟩ = some (.pointer (some ⟨mb, 0, none⟩)) := by simpa using HST6.out.r10.cell 0
              refine (samepairs_any (b1 := base) (b2 := base) A8 A18 L2.length c8 L2.length c18 L2 (W6.drewN q1) (HPS.out.2.2.1.new_ ((Keep.refl No W6).drewN q1)) ((HP18.out.new_ ?_)) HSS.out (by omega)).mono ?_
              · exact (Keep.refl No W6).drewN q1
              rintro e w7 ⟨rfl, q2, rfl⟩
              have kq2 : Keep No W6 ((W6.drewN q1).drewN q2) := ((Keep.refl No W6).drewN q1).drewN q2
              have q10' : ((W6.drewN q1).drewN q2).cell? ⟨b10, 0, none⟩ = some (.pointer (some ⟨mb, 0, none⟩)) := q10
              have HW := Lib.hid (whole_any (d := c18) (HPS.out.2.2.2.new_ kq2) (HP18.out.new_ kq2) hc18 (Nat.le_trans hb6W kq2.size) (by omega))
              have HKQ := Lib.hid kq2
              clear kq2 q10
              obtain ⟨W7, hW7⟩ : ∃ x, x = (W6.drewN q1).drewN q2 := ⟨_, rfl⟩
              rw [← hW7] at HW HKQ q10' ⊢
              clear hW7
              go_wp2_with fail
              refine HW.out.mono ?_
              rintro e w9 ⟨rfl, k9⟩
              have HK9 := Lib.hid (HKQ.out.trans k9 (fun _ x => x.elim))
              have HB9 := Lib.hid (HST6.out.r2.keep HK9.out (fun x => x))
              have c2' : w9.cell? ⟨w.heap.size + 1, 0, none⟩ = some (.bool false) := by simpa using HB9.out.cell 0
              have z2' := HB9.out.frozen 0
              clear k9 HW q10'
              go_wp2
              have hl2 := HST6.out.l2
              have hD1 := HD1.out.1
              have hne : D ≠ w.heap.size + 1 := by omega
              have hne2 : D2 ≠ w.heap.size + 1 := by omega
              have e1 : (w9.setCell ⟨w.heap.size + 1, 0, none⟩ (.bool true)).heap[D2]? = some (.deferred (some [])) := (Below.heap_setCell w9 ⟨w.heap.size + 1, 0, none⟩ (.bool true) D2 hne2).trans ((HK9.out.block D2 (loop_lt HDD.out.2) (fun x => x)).trans HDD.out.2)
              have e2 : (w9.setCell ⟨w.heap.size + 1, 0, none⟩ (.bool true)).heap[D]? = some (.deferred (some [])) := (Below.heap_setCell w9 ⟨w.heap.size + 1, 0, none⟩ (.bool true) D hne).trans ((HK9.out.block D (loop_lt HDD.out.1) (fun x => x)).trans HDD.out.1)
              have e3 : ((w9.setCell ⟨w.heap.size + 1, 0, none⟩ (.bool true)).putObj D2 (.deferred none)).heap[D]? = some (.deferred (some [])) := (World.putObj_heap_other (by omega)).trans e2
              have hB9 : Blk (w9.setCell ⟨w.heap.size + 1, 0, none⟩ (.bool true)) (w.heap.size + 1) 4 #[.bool true] := by
                have := HB9.out.set_ 0 (.bool true)
                simpa using this
              have hkF : Keep No w (w9.setCell ⟨w.heap.size + 1, 0, none⟩ (.bool true)) := (HST6.out.k.trans HK9.out (fun _ x => x.elim)).setCell (p := ⟨w.heap.size + 1, 0, none⟩) (.inr (Nat.le_succ _)) _
              refine ⟨by simp, .inl ⟨_, _, rfl, run_takeDeferred e1, ?_⟩⟩
              refine ⟨by simp, .inl ⟨_, _, rfl, run_takeDeferred e3, ?_⟩⟩
              refine ⟨_, results_cell1 rfl _ _ ⟨w.heap.size + 1, 0, none⟩ (.bool true) rfl (Try.isAgg4 _) ?_, rfl, ?_⟩
              · have := ((hB9.keep (keep_putObj _ D2 (.deferred none)) (fun e => hne2 (Eq.symm e))).keep (keep_putObj _ D (.deferred none)) (fun e => hne (Eq.symm e))).cell 0
                simpa using this
              · exact (hkF.trans (keep_putObj _ D2 (.deferred none)) (fun b e => .inr (by have : b = D2 := e; omega))).trans (keep_putObj _ D (.deferred none)) (fun b e => .inr (by have : b = D := e; omega))
end Go.Proofs.Ytdmckjojeddaaaa
