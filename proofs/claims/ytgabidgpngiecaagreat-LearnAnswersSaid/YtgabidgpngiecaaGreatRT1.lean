/- The reference's cut and measure. Conditions: each names its own. -/
import Derived.Test.YtgabidgpngiecaaGreatRT0
import Derived.Test.YtgabidgpngiecaaGreatRL0
import Derived.Test.YtgabidgpngiecaaGreatLT6
namespace Go.Proofs.YtgabidgpngiecaaGreat
open Go.RowKit Go.Proofs.YtgabidgpngiecaaGreatKit Go.Proofs.YtgabidgpngiecaaGreatPlain

theorem lowC_push (c : Nat) (x : Int) (T : List Row) (r : Row) : lowC c x (T ++ [r]) = lowC c x T ++ (if r.x c ≤ x then [r] else []) := by
  unfold lowC
  rw [List.filter_append]
  congr 1
  by_cases h : r.x c ≤ x <;> simp [h]
theorem highC_push (c : Nat) (x : Int) (T : List Row) (r : Row) : highC c x (T ++ [r]) = highC c x T ++ (if r.x c ≤ x then [] else [r]) := by
  unfold highC
  rw [List.filter_append]
  congr 1
  by_cases h : r.x c ≤ x
  · rw [if_pos h]; simp; exact h
  · rw [if_neg h]; simp; omega
/-- What cut holds. -/
structure CuS (w W : World) (lv hv : Value) (lo hi : List Row) : Prop where
  re : Blk W w.heap.size 130 #[.slice none 0 0, .slice none 0 0]
  pb : Blk W (w.heap.size + 1) 130 #[lv, hv]
  lo : ROwn w.heap.size W lv lo
  hi : ROwn w.heap.size W hv hi
  ap : ∀ k, lv.ownBlock = some k → hv.ownBlock ≠ some k
  kp : Keep No w W
section
variable {w W W' Wa W5 : World} {lv hv lv' hv' : Value} {lo hi : List Row} {r : Row}
theorem CuS.new_ (h : CuS w W lv hv lo hi) (hk : Keep No W W') : CuS w W' lv hv lo hi := ⟨h.re.keep hk (fun y => y), h.pb.keep hk (fun y => y), h.lo.keep hk (fun _ _ y => y), h.hi.keep hk (fun _ _ y => y), h.ap, h.kp.trans hk (fun _ y => y.elim)⟩
theorem CuS.start (w : World) : CuS w ((w.alloc (.cells #[.slice none 0 0, .slice none 0 0] 130)).alloc (.cells #[.slice none 0 0, .slice none 0 0] 130)) (.slice none 0 0) (.slice none 0 0) [] [] := by
  have e1 : (w.alloc (.cells #[.slice none 0 0, .slice none 0 0] 130)).heap.size = w.heap.size + 1 := by simp
  have b1 := Blk.new (w.alloc (.cells #[.slice none 0 0, .slice none 0 0] 130)) 130 #[.slice none 0 0, .slice none 0 0]
  rw [e1] at b1
  exact ⟨(Blk.new w _ _).alloc _, b1, World.ownsRow_nil _ _ _ _, World.ownsRow_nil _ _ _ _, (fun k e => by cases e), ((Keep.refl No w).alloc _).alloc _⟩
theorem CuS.grow1 (h : CuS w W lv hv lo hi) (ha : Keep No W Wa) (hg : Wa.grownBy W5 lv.ownBlock) : Blk W5 w.heap.size 130 #[.slice none 0 0, .slice none 0 0] ∧ Blk W5 (w.heap.size + 1) 130 #[lv, hv] ∧ ROwn w.heap.size W5 hv hi ∧ Keep No w W5 := by
  have hk : Keep (fun k => lv.ownBlock = some k) W W5 := (ha.mono (fun _ y => y.elim)).grown hg (fun k e => .inl e)
  exact ⟨h.re.keep hk (own_blk_ne h.lo h.re (by decide)), h.pb.keep hk (own_blk_ne h.lo h.pb (by decide)), h.hi.keep hk (fun k e e2 => h.ap k e2 e), h.kp.trans hk (fun k e => .inr (World.ownsRow.lt h.lo k e).1)⟩
theorem CuS.grow2 (h : CuS w W lv hv lo hi) (ha : Keep No W Wa) (hg : Wa.grownBy W5 hv.ownBlock) : Blk W5 w.heap.size 130 #[.slice none 0 0, .slice none 0 0] ∧ Blk W5 (w.heap.size + 1) 130 #[lv, hv] ∧ ROwn w.heap.size W5 lv lo ∧ Keep No w W5 := by
  have hk : Keep (fun k => hv.ownBlock = some k) W W5 := (ha.mono (fun _ y => y.elim)).grown hg (fun k e => .inl e)
  exact ⟨h.re.keep hk (own_blk_ne h.hi h.re (by decide)), h.pb.keep hk (own_blk_ne h.hi h.pb (by decide)), h.lo.keep hk (fun k e e2 => h.ap k e e2), h.kp.trans hk (fun k e => .inr (World.ownsRow.lt h.hi k e).1)⟩
theorem CuS.low (h : CuS w W lv hv lo hi) (ha : Keep No W Wa) (hown : W5.ownsRow w.heap.size 30 4 lv' (lo.length + 1) (rcells lo ++ r.cells)) (hg : Wa.grownBy W5 lv.ownBlock) (hat : lv'.ownBlock = lv.ownBlock ∨ lv'.ownBlock = some Wa.heap.size) :
    CuS w (W5.setCell ⟨w.heap.size + 1, 0, none⟩ lv') lv' hv (lo ++ [r]) hi := by
  obtain ⟨g1, g2, g3, g4⟩ := h.grow1 ha hg
  have hk : Keep (fun k => k = w.heap.size + 1) W5 (W5.setCell ⟨w.heap.size + 1, 0, none⟩ lv') := (Keep.refl (fun k => k = w.heap.size + 1) W5).setCell (p := ⟨w.heap.size + 1, 0, none⟩) (.inl rfl) _
  have ho : ROwn w.heap.size W5 lv' (lo ++ [r]) := by
    unfold ROwn
    rw [← rcells_push, List.length_append]
    exact hown
  refine ⟨g1.keep hk (by omega), g2.set_ 0 _, ho.keep hk (fun k e e2 => own_blk_ne ho g2 (by decide) (e2 ▸ e)), g3.keep hk (fun k e e2 => own_blk_ne g3 g2 (by decide) (e2 ▸ e)), fun k e e2 => ?_, g4.trans hk (fun k e => .inr (by omega))⟩
  rcases hat with h1 | h1
  · exact h.ap k (h1 ▸ e) e2
  · rw [h1] at e
    injection e with e
    have := (World.ownsRow.lt h.hi k e2).2
    have := ha.size
    omega
theorem CuS.high (h : CuS w W lv hv lo hi) (ha : Keep No W Wa) (hown : W5.ownsRow w.heap.size 30 4 hv' (hi.length + 1) (rcells hi ++ r.cells)) (hg : Wa.grownBy W5 hv.ownBlock) (hat : hv'.ownBlock = hv.ownBlock ∨ hv'.ownBlock = some Wa.heap.size) :
    CuS w (W5.setCell ⟨w.heap.size + 1, 1, none⟩ hv') lv hv' lo (hi ++ [r]) := by
  obtain ⟨g1, g2, g3, g4⟩ := h.grow2 ha hg
  have hk : Keep (fun k => k = w.heap.size + 1) W5 (W5.setCell ⟨w.heap.size + 1, 1, none⟩ hv') := (Keep.refl (fun k => k = w.heap.size + 1) W5).setCell (p := ⟨w.heap.size + 1, 1, none⟩) (.inl rfl) _
  have ho : ROwn w.heap.size W5 hv' (hi ++ [r]) := by
    unfold ROwn
    rw [← rcells_push, List.length_append]
    exact hown
  refine ⟨g1.keep hk (by omega), g2.set_ 1 _, g3.keep hk (fun k e e2 => own_blk_ne g3 g2 (by decide) (e2 ▸ e)), ho.keep hk (fun k e e2 => own_blk_ne ho g2 (by decide) (e2 ▸ e)), fun k e e2 => ?_, g4.trans hk (fun k e => .inr (by omega))⟩
  rcases hat with h1 | h1
  · exact h.ap k e (h1 ▸ e2)
  · rw [h1] at e2
    injection e2 with e2
    have := (World.ownsRow.lt h.lo k e).2
    have := ha.size
    omega
end

theorem info_size_parts : (Tryz.prog.info? 130).map (·.size) = some 2 := by kernel_rfl
set_option maxHeartbeats 1000000 in
set_option maxRecDepth 100000 in
theorem rcut_any {B : Nat} {w : World} {v : Value} {l : List Row} (i : Nat) (at_ : Int) (hi3 : i < 3) (h : RIn B w v l) (hl : l.length ≤ 500) :
    Calls Tryz.prog 68 #[v, .int .i64 (i : Nat), .int .i64 at_] w fun e w' => ∃ lv hv, e = .returned (.agg #[lv, hv]) ∧ ROwn w.heap.size w' lv (lowC i at_ l) ∧ ROwn w.heap.size w' hv (highC i at_ l) ∧ Keep No w w' := by
  obtain ⟨i0, hi0, hz0, hz1, hz2⟩ := info_parts info_row
  have HR := Lib.hid h
  obtain ⟨A, c, rfl, hc, _⟩ := h
  have H0 := Lib.hid (CuS.start w)
  have ii : (i : Int) < 3 := by omega
  go_enter Tryz.func68, Tryz.ntmps68
  go_wp2_with fail
  generalize (w.alloc (.cells #[.slice none 0 0, .slice none 0 0] 130)).alloc (.cells #[.slice none 0 0, .slice none 0 0] 130) = w1 at *
  go_loopg [8] l.length (fun kx s8 wr => ∃ (k : Nat) (lv hv : Value), s8 = .int .i64 k ∧ k ≤ l.length ∧ l.length ≤ k + kx ∧ Hid (CuS w wr lv hv (lowC i at_ (l.take k)) (highC i at_ (l.take k))))
  case atStart => exact ⟨0, _, _, rfl, Nat.zero_le _, by omega, H0⟩
  case round =>
    clear H0
    obtain ⟨k, lv, hv, rfl, hk, hkx, HS⟩ := hrel
    have j0 : (0 : Int) ≤ (k : Int) := by omega
    by_cases hlt : k < l.length
    · have j1 : (k : Int) < (l.length : Int) := by omega
      have hgd : decide ((k : Int) < (l.length : Int)) = true := decide_eq_true j1
      obtain ⟨A0, c0, eA, _, hR⟩ := HR.out.new_ HS.out.kp
      injection eA with eA en ec
      clear en
      subst eA
      subst ec
      obtain ⟨ad, hA, ex⟩ := RowsIn.x hR hlt hi3
      obtain ⟨ad', hA', _, e0, e1, e2, e3⟩ := hR.at_ hlt
      obtain rfl : ad = ad' := Option.some.inj (hA.symm.trans hA')
      subst hA
      have htk : l.take k ++ [l[k]] = l.take (k + 1) := List.take_append_getElem hlt
      have hlo := lowC_push i at_ (l.take k) l[k]
      have hhi := highC_push i at_ (l.take k) l[k]
      rw [htk] at hlo hhi
      have htl0 : (lowC i at_ (l.take k)).length ≤ 500 := Nat.le_trans (List.length_filter_le _ _) (by rw [List.length_take]; omega)
      have htl1 : (highC i at_ (l.take k)).length ≤ 500 := Nat.le_trans (List.length_filter_le _ _) (by rw [List.length_take]; omega)
      obtain ⟨px, hpx⟩ : ∃ px, px = l[k].x i := ⟨_, rfl⟩
      rw [← hpx] at ex hlo hhi
      have HTL := Lib.hid (show _ ∧ _ from ⟨htl0, htl1⟩)
      clear hR hA' htk hpx htl0 htl1
      generalize lowC i at_ (l.take k) = T0 at *
      generalize highC i at_ (l.take k) = T1 at *
      generalize l[k] = p at *
      by_cases hle : px ≤ at_
      · have hg : decide (px ≤ at_) = true := decide_eq_true hle
        rw [if_pos hle] at hlo hhi
        rw [List.append_nil] at hhi
        have HP := Lib.hid (show _ ∧ _ from ⟨hlo, hhi⟩)
        clear hle hlo hhi
        go_wp2_with fail
        have m0 : wr.cell? ⟨w.heap.size + 1, 0, none⟩ = some lv := HS.out.pb.cell 0
        have z0 := HS.out.pb.frozen 0
        have m2 : (wr.alloc (.cells #[.int .i64 p.a, .int .i64 p.b, .int .i64 p.c, .int .i64 p.l] 30)).cell? ⟨w.heap.size + 1, 0, none⟩ = some lv := (HS.out.pb.alloc _).cell 0
        go_region_law (go_loud (refine step_append_any _ (by rfl) _ _ _ (by rfl) w.heap.size 30 i0 _ 4 32 Tryz.underlying27 hi0 hz0 hz1 hz2 rfl (by omega) _ T0.length (rcells T0) (by rfl) (own_keep (ROwn.keep HS.out.lo ((Keep.refl No _).alloc _) (fun _ _ x => x)) (Keep.refl No _).drew (fun _ _ x => x)) w.heap.size _ 1 1 p.cells (by rfl) (rec_new (by rfl)) (by simp [Value.oneCell', Row.cells]) (by have := HTL.out; simp only [maxLen]; omega) (by have := HTL.out; omega) (Nat.le_trans HS.out.kp.size (Keep.size (S := No) (((Keep.refl No _).alloc _).drew))) ?_; intro v5 w5 hown5 hg5 hat5; obtain ⟨A5, c5, hv5, _⟩ := own_shape hown5; subst hv5; have HC5 := Lib.hid (HS.out.low (((Keep.refl No wr).alloc _).drew) hown5 hg5 hat5); have hgg := HS.out.grow1 (((Keep.refl No wr).alloc _).drew) hg5; have b5 : w5.cell? ⟨w.heap.size + 1, 0, none⟩ = some lv := hgg.2.1.cell 0; have z5 := hgg.2.1.frozen 0; clear hown5 hg5 hat5 hgg))
        all_goals
          clear m0 m2 z0 b5 z5 e0 e1 e2 e3 ex
          go_wp2_with fail
          go_roundg (l.length - (k + 1))
          case measure => omega
          case rel => exact ⟨k + 1, .slice A5 (T0.length + 1) c5, hv, by go_num, by omega, by omega, by rw [HP.out.1, HP.out.2]; exact HC5⟩
      · have hg : decide (px ≤ at_) = false := decide_eq_false hle
        rw [if_neg hle] at hlo hhi
        rw [List.append_nil] at hlo
        have HP := Lib.hid (show _ ∧ _ from ⟨hlo, hhi⟩)
        clear hle hlo hhi
        go_wp2_with fail
        have m0 : wr.cell? ⟨w.heap.size + 1, 1, none⟩ = some hv := HS.out.pb.cell 1
        have z0 := HS.out.pb.frozen 1
        have m2 : (wr.alloc (.cells #[.int .i64 p.a, .int .i64 p.b, .int .i64 p.c, .int .i64 p.l] 30)).cell? ⟨w.heap.size + 1, 1, none⟩ = some hv := (HS.out.pb.alloc _).cell 1
        go_region_law (go_loud (refine step_append_any _ (by rfl) _ _ _ (by rfl) w.heap.size 30 i0 _ 4 32 Tryz.underlying27 hi0 hz0 hz1 hz2 rfl (by omega) _ T1.length (rcells T1) (by rfl) (own_keep (ROwn.keep HS.out.hi ((Keep.refl No _).alloc _) (fun _ _ x => x)) (Keep.refl No _).drew (fun _ _ x => x)) w.heap.size _ 1 1 p.cells (by rfl) (rec_new (by rfl)) (by simp [Value.oneCell', Row.cells]) (by have := HTL.out; simp only [maxLen]; omega) (by have := HTL.out; omega) (Nat.le_trans HS.out.kp.size (Keep.size (S := No) (((Keep.refl No _).alloc _).drew))) ?_; intro v5 w5 hown5 hg5 hat5; obtain ⟨A5, c5, hv5, _⟩ := own_shape hown5; subst hv5; have HC5 := Lib.hid (HS.out.high (((Keep.refl No wr).alloc _).drew) hown5 hg5 hat5); have hgg := HS.out.grow2 (((Keep.refl No wr).alloc _).drew) hg5; have b5 : w5.cell? ⟨w.heap.size + 1, 1, none⟩ = some hv := hgg.2.1.cell 1; have z5 := hgg.2.1.frozen 1; clear hown5 hg5 hat5 hgg))
        all_goals
          clear m0 m2 z0 b5 z5 e0 e1 e2 e3 ex
          go_wp2_with fail
          go_roundg (l.length - (k + 1))
          case measure => omega
          case rel => exact ⟨k + 1, lv, .slice A5 (T1.length + 1) c5, by go_num, by omega, by omega, by rw [HP.out.1, HP.out.2]; exact HC5⟩
    · obtain rfl : k = l.length := by omega
      have hgd : decide ((l.length : Int) < (l.length : Int)) = false := decide_eq_false (by omega)
      have HF := Lib.hid (show CuS w wr lv hv (lowC i at_ l) (highC i at_ l) from by have h := HS.out; rwa [List.take_length] at h)
      clear HS
      obtain ⟨A1, c1, hlv, _⟩ := own_shape HF.out.lo
      obtain ⟨A2, c2, hhv, _⟩ := own_shape HF.out.hi
      subst hlv hhv
      have m0 := HF.out.pb.cell 0
      have m1 := HF.out.pb.cell 1
      have r0 := HF.out.re.cell 0
      have r1 := HF.out.re.cell 1
      have z0 := HF.out.re.frozen 0
      have z1 := HF.out.re.frozen 1
      simp only [List.getElem?_toArray, List.getElem?_cons_zero, List.getElem?_cons_succ] at m0 m1 r0 r1
      go_wp2_with fail
      have hk : Keep (fun k => k = w.heap.size) wr ((wr.setCell ⟨w.heap.size, 0, none⟩ (.slice A1 (lowC i at_ l).length c1)).setCell ⟨w.heap.size, 1, none⟩ (.slice A2 (highC i at_ l).length c2)) := ((Keep.refl (fun k => k = w.heap.size) wr).setCell (p := ⟨w.heap.size, 0, none⟩) (.inl rfl) _).setCell (p := ⟨w.heap.size, 1, none⟩) (.inl rfl) _
      exact bodyPost_ret (results_cell_row rfl _ _ w.heap.size 130 #[.slice A1 (lowC i at_ l).length c1, .slice A2 (highC i at_ l).length c2] (0, 0) _ rfl ((HF.out.re.set_ 0 _).set_ 1 _) Tryz.underlying130 rfl info_size_parts) rfl
        ⟨_, _, rfl, HF.out.lo.keep hk (fun k e e2 => own_blk_ne HF.out.lo HF.out.re (by decide) (e2 ▸ e)), HF.out.hi.keep hk (fun k e e2 => own_blk_ne HF.out.hi HF.out.re (by decide) (e2 ▸ e)), HF.out.kp.trans hk (fun k e => .inr (by omega))⟩

/-! ### measure -/
def mNum (lo hi : List Row) : Int := ((lo.length : Int) * lo.length - sqC (cnt8 lo) 8) * hi.length + ((hi.length : Int) * hi.length - sqC (cnt8 hi) 8) * lo.length
def mDen (lo hi : List Row) : Int := (lo.length : Int) * hi.length
/-- What measure holds. -/
structure MeS (w W : World) (lv hv : Value) (lo hi : List Row) : Prop where
  bx : Blk W w.heap.size 130 #[lv, hv]
  re : ∃ x y, Blk W (w.heap.size + 1) 110 #[x, y]
  lo : RIn 0 W lv lo
  hi : RIn 0 W hv hi
  kp : Keep No w W
theorem MeS.new_ {w W W' : World} {lv hv : Value} {lo hi : List Row} (h : MeS w W lv hv lo hi) (hk : Keep No W W') : MeS w W' lv hv lo hi := by
  obtain ⟨x, y, hxy⟩ := h.re
  exact ⟨h.bx.keep hk (fun y => y), ⟨x, y, hxy.keep hk (fun y => y)⟩, h.lo.new_ hk, h.hi.new_ hk, h.kp.trans hk (fun _ y => y.elim)⟩
theorem MeS.put {w W : World} {lv hv : Value} {lo hi : List Row} (h : MeS w W lv hv lo hi) (a b : Value) : Blk ((W.setCell ⟨w.heap.size + 1, 0, none⟩ a).setCell ⟨w.heap.size + 1, 1, none⟩ b) (w.heap.size + 1) 110 #[a, b] ∧ Keep No w ((W.setCell ⟨w.heap.size + 1, 0, none⟩ a).setCell ⟨w.heap.size + 1, 1, none⟩ b) ∧ MeS w ((W.setCell ⟨w.heap.size + 1, 0, none⟩ a).setCell ⟨w.heap.size + 1, 1, none⟩ b) lv hv lo hi := by
  obtain ⟨x, y, hxy⟩ := h.re
  have hb : Blk ((W.setCell ⟨w.heap.size + 1, 0, none⟩ a).setCell ⟨w.heap.size + 1, 1, none⟩ b) (w.heap.size + 1) 110 #[a, b] := (hxy.set_ 0 a).set_ 1 b
  have hk : Keep (fun k => k = w.heap.size + 1) W ((W.setCell ⟨w.heap.size + 1, 0, none⟩ a).setCell ⟨w.heap.size + 1, 1, none⟩ b) := ((Keep.refl (fun k => k = w.heap.size + 1) W).setCell (p := ⟨w.heap.size + 1, 0, none⟩) (.inl rfl) _).setCell (p := ⟨w.heap.size + 1, 1, none⟩) (.inl rfl) _
  have ho : Off 0 30 W (fun k => k = w.heap.size + 1) := fun k e => ⟨Nat.zero_le _, by subst e; exact ⟨_, _, _, hxy, by decide⟩⟩
  have hkn : Keep No w ((W.setCell ⟨w.heap.size + 1, 0, none⟩ a).setCell ⟨w.heap.size + 1, 1, none⟩ b) := h.kp.trans hk (fun k e => .inr (by omega))
  exact ⟨hb, hkn, ⟨h.bx.keep hk (by omega), ⟨a, b, hb⟩, h.lo.off hk ho, h.hi.off hk ho, hkn⟩⟩
theorem MeS.s {w W : World} {lv hv : Value} {lo hi : List Row} (h : MeS w W lv hv lo hi) : W.cell? ⟨w.heap.size, 0, none⟩ = some lv ∧ W.cell? ⟨w.heap.size, 1, none⟩ = some hv ∧ W.cell? ⟨w.heap.size + 1, 0, none⟩ = some (cellOf W ⟨w.heap.size + 1, 0, none⟩) ∧ W.cell? ⟨w.heap.size + 1, 1, none⟩ = some (cellOf W ⟨w.heap.size + 1, 1, none⟩) ∧
  W.frozen? ⟨w.heap.size + 1, 0, none⟩ = false ∧ W.frozen? ⟨w.heap.size + 1, 1, none⟩ = false ∧ MeS w W lv hv lo hi := by
  obtain ⟨x, y, hxy⟩ := h.re
  exact ⟨h.bx.cell 0, h.bx.cell 1, cellOf_of (hxy.cell 0), cellOf_of (hxy.cell 1), hxy.frozen 0, hxy.frozen 1, h⟩
theorem MeS.start {w : World} {lv hv : Value} {lo hi : List Row} (h1 : RIn 0 w lv lo) (h2 : RIn 0 w hv hi) : MeS w ((w.alloc (.cells #[lv, hv] 130)).alloc (.cells #[.int .i64 0, .int .i64 0] 110)) lv hv lo hi := by
  have e1 : (w.alloc (.cells #[lv, hv] 130)).heap.size = w.heap.size + 1 := by simp
  have b1 := Blk.new (w.alloc (.cells #[lv, hv] 130)) 110 #[.int .i64 0, .int .i64 0]
  rw [e1] at b1
  have k := ((Keep.refl No w).alloc (.cells #[lv, hv] 130)).alloc (.cells #[.int .i64 0, .int .i64 0] 110)
  exact ⟨(Blk.new w _ _).alloc _, ⟨_, _, b1⟩, h1.new_ k, h2.new_ k, k⟩
set_option maxHeartbeats 1000000 in
set_option maxRecDepth 100000 in
theorem rmeasure_any {w : World} {lv hv : Value} {lo hi : List Row} (h1 : RIn 0 w lv lo) (h2 : RIn 0 w hv hi) (hok1 : ∀ r ∈ lo, okRow r) (hok2 : ∀ r ∈ hi, okRow r) (hl : lo.length + hi.length ≤ 500) :
    Calls Tryz.prog 77 #[.agg #[lv, hv]] w fun e w' => e = .returned (.agg #[.int .i64 (mNum lo hi), .int .i64 (mDen lo hi)]) ∧ Keep No w w' := by
  have H0 := Lib.hid (MeS.start h1 h2)
  obtain ⟨A1, c1, rfl, _, _⟩ := h1
  obtain ⟨A2, c2, rfl, _, _⟩ := h2
  have HQ1 := Lib.hid (fun W (hW : MeS w W (.slice A1 lo.length c1) (.slice A2 hi.length c2) lo hi) => rsquares_any hW.lo (Nat.zero_le _) hok1 (by omega))
  have HQ2 := Lib.hid (fun W (hW : MeS w W (.slice A1 lo.length c1) (.slice A2 hi.length c2) lo hi) => rsquares_any hW.hi (Nat.zero_le _) hok2 (by omega))
  have b1 := sqC_bd (cnt8_le (T := lo) (by omega)) 8 (Nat.le_refl _)
  have b2 := sqC_bd (cnt8_le (T := hi) (by omega)) 8 (Nat.le_refl _)
  unfold mNum mDen
  generalize sqC (cnt8 lo) 8 = s1 at *
  generalize sqC (cnt8 hi) 8 = s2 at *
  have m0 : ((w.alloc (.cells #[.slice A1 lo.length c1, .slice A2 hi.length c2] 130)).alloc (.cells #[.int .i64 0, .int .i64 0] 110)).cell? ⟨w.heap.size, 0, none⟩ = some (.slice A1 lo.length c1) := H0.out.bx.cell 0
  have m1 : ((w.alloc (.cells #[.slice A1 lo.length c1, .slice A2 hi.length c2] 130)).alloc (.cells #[.int .i64 0, .int .i64 0] 110)).cell? ⟨w.heap.size, 1, none⟩ = some (.slice A2 hi.length c2) := H0.out.bx.cell 1
  obtain ⟨a, ha⟩ : ∃ a : Int, a = lo.length := ⟨_, rfl⟩
  obtain ⟨b, hb⟩ : ∃ b : Int, b = hi.length := ⟨_, rfl⟩
  have ha5 : 0 ≤ a ∧ a ≤ 500 := by omega
  have hb5 : 0 ≤ b ∧ b ≤ 500 := by omega
  have p1 := mul_bd (U := 500) (V := 500) (u := a) (v := a) (by omega) (by omega)
  have p2 := mul_bd (U := 500) (V := 500) (u := b) (v := b) (by omega) (by omega)
  have p3 := mul_bd (U := 500) (V := 500) (u := a) (v := b) (by omega) (by omega)
  have p4 := mul_bd (U := 9000000) (V := 500) (u := a * a - s1) (v := b) (by omega) (by omega)
  have p5 := mul_bd (U := 9000000) (V := 500) (u := b * b - s2) (v := a) (by omega) (by omega)
  have q1 : IntKind.i64.wrap (a * a) = a * a := fit64 (by omega) (by omega)
  have q2 : IntKind.i64.wrap (b * b) = b * b := fit64 (by omega) (by omega)
  have q3 : IntKind.i64.wrap (a * b) = a * b := fit64 (by omega) (by omega)
  have q4 : IntKind.i64.wrap (a * a - s1) = a * a - s1 := fit64 (by omega) (by omega)
  have q5 : IntKind.i64.wrap (b * b - s2) = b * b - s2 := fit64 (by omega) (by omega)
  have q6 : IntKind.i64.wrap ((a * a - s1) * b) = (a * a - s1) * b := fit64 (by omega) (by omega)
  have q7 : IntKind.i64.wrap ((b * b - s2) * a) = (b * b - s2) * a := fit64 (by omega) (by omega)
  have q8 : IntKind.i64.wrap ((a * a - s1) * b + (b * b - s2) * a) = (a * a - s1) * b + (b * b - s2) * a := fit64 (by omega) (by omega)
  clear p1 p2 p3 p4 p5 b1 b2 ha5 hb5
  subst ha hb
  go_enter Tryz.func77, Tryz.ntmps77
  go_wp2_with fail
  generalize (w.alloc (.cells #[.slice A1 lo.length c1, .slice A2 hi.length c2] 130)).alloc (.cells #[.int .i64 0, .int .i64 0] 110) = w1 at *
  clear m0 m1
  go_region_held3 (fun W => W.cell? ⟨w.heap.size, 0, none⟩ = some (.slice A1 lo.length c1) ∧ W.cell? ⟨w.heap.size, 1, none⟩ = some (.slice A2 hi.length c2) ∧ W.cell? ⟨w.heap.size + 1, 0, none⟩ = some (cellOf W ⟨w.heap.size + 1, 0, none⟩) ∧ W.cell? ⟨w.heap.size + 1, 1, none⟩ = some (cellOf W ⟨w.heap.size + 1, 1, none⟩) ∧
    W.frozen? ⟨w.heap.size + 1, 0, none⟩ = false ∧ W.frozen? ⟨w.heap.size + 1, 1, none⟩ = false ∧ MeS w W (.slice A1 lo.length c1) (.slice A2 hi.length c2) lo hi)
    (first
      | with_reducible exact (MeS.new_ H0.out ((Keep.refl No w1).drew)).s
      | with_reducible exact HS8.out.s
      | ((try go_split_ands); have hlw : MeS w _ (.slice A1 lo.length c1) (.slice A2 hi.length c2) lo hi := (by with_reducible assumption); with_reducible exact (hlw.new_ KK.out).s)
      | ((try go_split_ands); have hlw : MeS w _ (.slice A1 lo.length c1) (.slice A2 hi.length c2) lo hi := (by with_reducible assumption); with_reducible exact (hlw.put _ _).2.2.s))
    (first
      | (go_at_call_of 67 (Value.slice A1 lo.length c1); (try go_split_ands); have hlw0 : MeS w _ (.slice A1 lo.length c1) (.slice A2 hi.length c2) lo hi := (by with_reducible assumption); with_reducible refine Calls.mono (HQ1.out _ hlw0) ?_; rintro e w' ⟨rfl, hk⟩; have KK := Lib.hid hk; clear hk)
      | (go_at_call_of 67 (Value.slice A2 hi.length c2); (try go_split_ands); have hlw0 : MeS w _ (.slice A1 lo.length c1) (.slice A2 hi.length c2) lo hi := (by with_reducible assumption); with_reducible refine Calls.mono (HQ2.out _ hlw0) ?_; rintro e w' ⟨rfl, hk⟩; have KK := Lib.hid hk; have HS8 := Lib.hid (hlw0.new_ hk); clear hk)
      | fail)
  all_goals
    have hp := HS8.out.put (.int .i64 (((lo.length : Int) * (lo.length : Int) - s1) * (hi.length : Int) + ((hi.length : Int) * (hi.length : Int) - s2) * (lo.length : Int))) (.int .i64 ((lo.length : Int) * (hi.length : Int)))
    go_wp2_with fail
    exact bodyPost_ret (results_cell_row rfl _ _ (w.heap.size + 1) 110 #[.int .i64 (((lo.length : Int) * (lo.length : Int) - s1) * (hi.length : Int) + ((hi.length : Int) * (hi.length : Int) - s2) * (lo.length : Int)), .int .i64 ((lo.length : Int) * (hi.length : Int))] (0, 0) _ rfl hp.1 Tryz.underlying110 rfl (show (Tryz.prog.info? 110).map (·.size) = some 2 from by kernel_rfl)) rfl ⟨rfl, hp.2.1⟩
end Go.Proofs.YtgabidgpngiecaaGreat
