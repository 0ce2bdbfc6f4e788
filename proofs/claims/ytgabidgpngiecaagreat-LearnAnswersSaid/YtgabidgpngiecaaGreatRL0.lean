/- The reference's gcd, frac, Line. Conditions: each names its own. -/
import Derived.Test.YtgabidgpngiecaaGreatLM0
namespace Go.Proofs.YtgabidgpngiecaaGreat
open Go.RowKit Go.Proofs.YtgabidgpngiecaaGreatKit Go.Proofs.YtgabidgpngiecaaGreatPlain

set_option maxHeartbeats 400000 in
set_option maxRecDepth 100000 in
theorem rgcd_any {a0 b0 : Int} (w : World) (ha : 0 ≤ a0) (hb : 0 ≤ b0) (m1 : Mid a0) (m2 : Mid b0) :
    Calls Tryz.prog 64 #[.int .i64 a0, .int .i64 b0] w fun e w' => e = .returned (.int .i64 (Int.gcd a0 b0 : Nat)) ∧ Keep No w w' := by
  have H0 := Lib.hid (show Int.gcd a0 b0 = Int.gcd a0 b0 ∧ Mid a0 ∧ Mid b0 ∧ 0 ≤ a0 ∧ 0 ≤ b0 from ⟨rfl, m1, m2, ha, hb⟩)
  clear ha hb m1 m2
  go_enter Tryz.func64, Tryz.ntmps64
  go_wp2_with fail
  go_loopw [0, 1] (fun v0 v1 wr => ∃ a b : Int, v0 = .int .i64 a ∧ v1 = .int .i64 b ∧ Hid (Int.gcd a b = Int.gcd a0 b0 ∧ Mid a ∧ Mid b ∧ 0 ≤ a ∧ 0 ≤ b) ∧ Hid (∃ q, wr = w.drewN q)) (fun _ v _ => (intOf v).natAbs)
  case atStart => exact ⟨a0, b0, rfl, rfl, Lib.hid ⟨rfl, H0.out.2⟩, Lib.hid ⟨0, rfl⟩⟩
  case round =>
    obtain ⟨a, b, rfl, rfl, hI, hW⟩ := hrel
    obtain ⟨n0, hn0⟩ := hW.out
    have HKr := Lib.hid (show Keep No w wr from hn0 ▸ (Keep.refl No w).drewN n0)
    by_cases hb : b = 0
    · subst hb
      have HE := Lib.hid (show a = (Int.gcd a0 b0 : Nat) from by
        have := hI.out
        rw [Int.gcd_zero_right] at this
        omega)
      clear hI hW hn0
      go_wp2
      go_ret
      exact ⟨ret_int HE.out, HKr.out⟩
    · have hrf := rem_fit (a := a) (b := b) hI.out.2.2.1 hb
      have hms : Mid (a.tmod b) := hrf.2
      have hwr1 := hrf.1
      have hnn := Int.tmod_nonneg b hI.out.2.2.2.1
      have HN := Lib.hid (show _ ∧ _ from ⟨hms, hnn⟩)
      clear hrf hms hnn
      go_wp2_with fail
      go_quiet (fail)
      go_wp2_with fail
      go_roundw
      case rel => exact ⟨b, a.tmod b, rfl, rfl, Lib.hid ⟨(gcd_step a b).trans hI.out.1, hI.out.2.2.1, HN.out.1, hI.out.2.2.2.2, HN.out.2⟩, Lib.hid ⟨n0 + nq, by first | rfl | (simp [World.drewN, Nat.add_assoc]) | (rw [hn0]; simp [World.drewN, Nat.add_assoc])⟩⟩
      case measure => simp [intOf]; exact Nat.mod_lt _ (by omega)
set_option maxHeartbeats 400000 in
set_option maxRecDepth 100000 in
theorem rfrac_any {n d : Int} (w : World) (hd : 0 < d) (m1 : Mid n) (m2 : Mid d) :
    Calls Tryz.prog 49 #[.int .i64 n, .int .i64 d] w fun e w' => ∃ p q, e = .returned (fracV p q) ∧ Lowest n d p q ∧ Keep No w w' := by
  have hab : 0 ≤ max n (-n) := by omega
  have hma : Mid (max n (-n)) := by unfold Mid at *; omega
  have hgg : Int.gcd (max n (-n)) d = Int.gcd n d := by
    rcases Int.le_total 0 n with h | h
    · rw [show max n (-n) = n from by omega]
    · rw [show max n (-n) = -n from by omega, Int.neg_gcd]
  have HG := Lib.hid (fun W => hgg ▸ rgcd_any (a0 := max n (-n)) (b0 := d) W hab (by omega) hma m2)
  have hgp : 0 < Int.gcd n d := Int.gcd_pos_of_ne_zero_right _ (by omega)
  have hL := lowest_of (num := n) hd
  have hgm : (Int.gcd n d : Int) ≤ d := Int.le_of_dvd hd (Int.gcd_dvd_right _ _)
  have HB := Lib.hid (Blk.new w 46 #[.int .i64 0, .int .i64 0])
  have HK := Lib.hid ((Keep.refl No w).alloc (.cells #[.int .i64 0, .int .i64 0] 46))
  obtain ⟨g, hgd⟩ : ∃ g : Int, g = (Int.gcd n d : Int) := ⟨_, rfl⟩
  rw [← hgd] at hL HG hgm
  have hg0 : 0 < g := by omega
  have hg1 : g ≠ 0 := by omega
  have hwn := tdiv_fit (g := g) m1
  have hwd := tdiv_fit (g := g) m2
  obtain ⟨p, hpe⟩ : ∃ p, n.tdiv g = p := ⟨_, rfl⟩
  obtain ⟨q, hqe⟩ : ∃ q, d.tdiv g = q := ⟨_, rfl⟩
  rw [hpe] at hL hwn
  rw [hqe] at hL hwd
  have HL := Lib.hid hL
  have hneg : IntKind.i64.wrap (-n) = -n := by unfold Mid at m1; exact fit64 (by omega) (by omega)
  have hlt : ¬ d < 0 := by omega
  have hltd : decide (d < 0) = false := decide_eq_false hlt
  clear hab hma hgg hgp hgd hL hgm m1 m2
  go_enter Tryz.func49, Tryz.ntmps49
  go_wp2_with fail
  generalize w.alloc (.cells #[.int .i64 0, .int .i64 0] 46) = w1 at *
  refine (HG.out _).mono ?_
  rintro e w2 ⟨rfl, hk2⟩
  have HB2 := Lib.hid (HB.out.keep hk2 (fun x => x))
  have HK2 := Lib.hid (HK.out.trans hk2 (fun _ x => x.elim))
  clear hk2 HG HB HK hneg
  go_wp2_with fail
  have f0 := HB2.out.cell 0
  have f1 := HB2.out.cell 1
  have z0 := HB2.out.frozen 0
  have z1 := HB2.out.frozen 1
  simp only [List.getElem?_toArray, List.getElem?_cons_zero, List.getElem?_cons_succ] at f0 f1
  go_region
  all_goals
    go_wp2_with fail
    exact bodyPost_ret (results_cell_row rfl _ _ w.heap.size 46 #[.int .i64 p, .int .i64 q] (0, 0) _ rfl ((HB2.out.drew.set_ 0 (.int .i64 p)).set_ 1 (.int .i64 q)) Tryz.underlying46 rfl info_size_frac) rfl
      ⟨p, q, rfl, HL.out, ((HK2.out.drew.setCell (p := ⟨w.heap.size, 0, none⟩) (.inr (Nat.le_refl _)) _).setCell (p := ⟨w.heap.size, 1, none⟩) (.inr (Nat.le_refl _)) _)⟩

/-! ### Line -/
theorem RowsIn.x {base : Nat} {w : World} {A : Option Addr} {l : List Row} (h : RowsIn base w A l) {k i : Nat} (hk : k < l.length) (hi : i < 3) : ∃ ad, A = some ad ∧ w.cell? ((ad.add (k * 4)).add i) = some (.int .i64 (l[k].x i)) := by
  obtain ⟨ad, hA, _, e0, e1, e2, _⟩ := h.at_ hk
  refine ⟨ad, hA, ?_⟩
  rcases i with _ | _ | _ | i
  · exact e0
  · exact e1
  · exact e2
  · omega
def otherCol (i : Nat) (r0 : Row) (T : List Row) : Bool := T.any fun r => !decide (r.x i = r0.x i)
theorem otherCol_push (i : Nat) (r0 : Row) (T : List Row) (r : Row) : otherCol i r0 (T ++ [r]) = (otherCol i r0 T || !decide (r.x i = r0.x i)) := by simp [otherCol, List.any_append]
theorem disc_other {i : Nat} {r0 : Row} {l : List Row} (h : r0 ∈ l) : (otherCol i r0 l = true ↔ 0 < disc (fun r => r.x i) l) := by
  have h0 := disc_nonneg (fun r => r.x i) l
  constructor
  · intro ho
    rcases Int.lt_or_eq_of_le h0 with h1 | h1
    · exact h1
    · exfalso
      unfold otherCol at ho
      rw [List.any_eq_true] at ho
      obtain ⟨r, hr, hne⟩ := ho
      have := disc_zero h1.symm r hr r0 h
      simp at hne
      exact hne this
  · intro hd
    rw [← Bool.not_eq_false]
    intro hf
    unfold otherCol at hf
    rw [List.any_eq_false] at hf
    have := disc_same (f := fun r => r.x i) (l := l) (r0.x i) (fun r hr => by have := hf r hr; simp at this; exact this)
    omega
theorem headD_get {l : List Row} (d : Row) (h : 0 < l.length) : l[0] = l.headD d := by
  match l, h with
  | r :: l, _ => rfl
/-- Midway through Line. -/
structure RLs (base : Nat) (w W : World) (v : Value) (l : List Row) (cs : Array Value) : Prop where
  ro : RIn base W v l
  bk : Blk W w.heap.size 56 cs
  kp : Keep No w W
theorem RLs.new_ {base : Nat} {w W W' : World} {v : Value} {l : List Row} {cs : Array Value} (h : RLs base w W v l cs) (hk : Keep No W W') : RLs base w W' v l cs := ⟨h.ro.new_ hk, h.bk.keep hk (fun x => x), h.kp.trans hk (fun _ x => x.elim)⟩
/-- The sums so far. -/
structure RSum (i j : Nat) (T : List Row) (n x y xx xy : Int) : Prop where
  en : n = (T.length : Nat)
  ex : x = sumf (fun r => r.x i) T
  ey : y = sumf (fun r => r.x j) T
  exx : xx = sumf (fun r => r.x i * r.x i) T
  exy : xy = sumf (fun r => r.x i * r.x j) T
  b : 0 ≤ n ∧ n ≤ 500 ∧ -500000 ≤ x ∧ x ≤ 500000 ∧ -500000 ≤ y ∧ y ≤ 500000 ∧ -500000000 ≤ xx ∧ xx ≤ 500000000 ∧ -500000000 ≤ xy ∧ xy ≤ 500000000
theorem RSum.of (i j : Nat) {T : List Row} (hl : T.length ≤ 500) (hok : ∀ r ∈ T, okRow r) : RSum i j T (T.length : Nat) (sumf (fun r => r.x i) T) (sumf (fun r => r.x j) T) (sumf (fun r => r.x i * r.x i) T) (sumf (fun r => r.x i * r.x j) T) := by
  have b1 := sumf_bound (f := fun r => r.x i) (l := T) (k := 1000) (fun r hr => (hok r hr).x i)
  have b2 := sumf_bound (f := fun r => r.x j) (l := T) (k := 1000) (fun r hr => (hok r hr).x j)
  have b3 := sumf_bound (f := fun r => r.x i * r.x i) (l := T) (k := 1000000) (fun r hr => mul_bd (U := 1000) (V := 1000) ((hok r hr).x i) ((hok r hr).x i))
  have b4 := sumf_bound (f := fun r => r.x i * r.x j) (l := T) (k := 1000000) (fun r hr => mul_bd (U := 1000) (V := 1000) ((hok r hr).x i) ((hok r hr).x j))
  exact ⟨rfl, rfl, rfl, rfl, rfl, by omega⟩
theorem RSum.push {i j : Nat} {T : List Row} {n x y xx xy : Int} (h : RSum i j T n x y xx xy) (r : Row) (hl : (T ++ [r]).length ≤ 500) (hok : ∀ s ∈ T ++ [r], okRow s) : RSum i j (T ++ [r]) (n + 1) (x + r.x i) (y + r.x j) (xx + r.x i * r.x i) (xy + r.x i * r.x j) := by
  have h1 := RSum.of i j hl hok
  simp only [sumf_append, sumf, List.length_append, List.length_cons, List.length_nil, Int.add_zero] at h1
  rw [← h.ex, ← h.ey, ← h.exx, ← h.exy] at h1
  have e : ((T.length + (0 + 1) : Nat) : Int) = n + 1 := by rw [h.en]; omega
  rw [e] at h1
  exact ⟨by rw [h.en]; simp, by rw [sumf_append, ← h.ex]; simp [sumf], by rw [sumf_append, ← h.ey]; simp [sumf], by rw [sumf_append, ← h.exx]; simp [sumf], by rw [sumf_append, ← h.exy]; simp [sumf], h1.b⟩

theorem info_size_lined : (Tryz.prog.info? 56).map (·.size) = some 5 := by kernel_rfl
set_option maxHeartbeats 400000 in
set_option maxRecDepth 100000 in
theorem rline_bad {w : World} (v : Value) (by_ of_ : Int) (hb : ¬ (0 ≤ by_ ∧ by_ < 3 ∧ 0 ≤ of_ ∧ of_ < 3)) :
    Calls Tryz.prog 16 #[v, .int .i64 by_, .int .i64 of_] w fun e w' => e = .returned (.agg #[.int .i64 0, .int .i64 0, .int .i64 0, .int .i64 0, .int .i64 1]) ∧ Keep No w w' := by
  have HW1 := Lib.hid (fun W => within_any by_ 0 2 W)
  have HW2 := Lib.hid (fun W => within_any of_ 0 2 W)
  have B0 := Blk.new w 56 #[.int .i64 0, .int .i64 0, .int .i64 0, .int .i64 0, .int .i64 0]
  have k0 := (Keep.refl No w).alloc (.cells #[.int .i64 0, .int .i64 0, .int .i64 0, .int .i64 0, .int .i64 0] 56)
  have HB := Lib.hid (show _ ∧ _ from ⟨B0, k0⟩)
  have f0 := B0.cell 0
  have f1 := B0.cell 1
  have f2 := B0.cell 2
  have f3 := B0.cell 3
  have f4 := B0.cell 4
  have z0 := B0.frozen 0
  have z1 := B0.frozen 1
  have z2 := B0.frozen 2
  have z3 := B0.frozen 3
  have z4 := B0.frozen 4
  simp only [List.getElem?_toArray, List.getElem?_cons_zero, List.getElem?_cons_succ] at f0 f1 f2 f3 f4
  clear B0 k0
  by_cases h1 : 0 ≤ by_ ∧ by_ ≤ 2
  · rw [decide_eq_true h1] at HW1
    rw [decide_eq_false (show ¬ (0 ≤ of_ ∧ of_ ≤ 2) from by omega)] at HW2
    clear h1 hb
    go_enter Tryz.func16, Tryz.ntmps16
    go_wp2_with fail
    generalize w.alloc (.cells #[.int .i64 0, .int .i64 0, .int .i64 0, .int .i64 0, .int .i64 0] 56) = w1 at *
    go_wp2_with (first
      | (go_at_call_of 48 (Value.int IntKind.i64 by_); refine (HW1.out _).mono ?_; rintro e w' ⟨rfl, rfl⟩)
      | (go_at_call_of 48 (Value.int IntKind.i64 of_); refine (HW2.out _).mono ?_; rintro e w' ⟨rfl, rfl⟩))
    exact bodyPost_ret (results_cell_row rfl _ _ w.heap.size 56 #[.int .i64 0, .int .i64 0, .int .i64 0, .int .i64 0, .int .i64 1] (0, 0) _ rfl (((((HB.out.1.set_ 0 (.int .i64 0)).set_ 1 (.int .i64 0)).set_ 2 (.int .i64 0)).set_ 3 (.int .i64 0)).set_ 4 (.int .i64 1)) Tryz.underlying56 rfl info_size_lined) rfl
        ⟨rfl, ((((HB.out.2.setCell (p := ⟨w.heap.size, 0, none⟩) (.inr (Nat.le_refl _)) _).setCell (p := ⟨w.heap.size, 1, none⟩) (.inr (Nat.le_refl _)) _).setCell (p := ⟨w.heap.size, 2, none⟩) (.inr (Nat.le_refl _)) _).setCell (p := ⟨w.heap.size, 3, none⟩) (.inr (Nat.le_refl _)) _).setCell (p := ⟨w.heap.size, 4, none⟩) (.inr (Nat.le_refl _)) _⟩
  · rw [decide_eq_false h1] at HW1
    clear h1 hb HW2
    go_enter Tryz.func16, Tryz.ntmps16
    go_wp2_with fail
    generalize w.alloc (.cells #[.int .i64 0, .int .i64 0, .int .i64 0, .int .i64 0, .int .i64 0] 56) = w1 at *
    go_wp2_with (first
      | (go_at_call_of 48 (Value.int IntKind.i64 by_); refine (HW1.out _).mono ?_; rintro e w' ⟨rfl, rfl⟩))
    exact bodyPost_ret (results_cell_row rfl _ _ w.heap.size 56 #[.int .i64 0, .int .i64 0, .int .i64 0, .int .i64 0, .int .i64 1] (0, 0) _ rfl (((((HB.out.1.set_ 0 (.int .i64 0)).set_ 1 (.int .i64 0)).set_ 2 (.int .i64 0)).set_ 3 (.int .i64 0)).set_ 4 (.int .i64 1)) Tryz.underlying56 rfl info_size_lined) rfl
        ⟨rfl, ((((HB.out.2.setCell (p := ⟨w.heap.size, 0, none⟩) (.inr (Nat.le_refl _)) _).setCell (p := ⟨w.heap.size, 1, none⟩) (.inr (Nat.le_refl _)) _).setCell (p := ⟨w.heap.size, 2, none⟩) (.inr (Nat.le_refl _)) _).setCell (p := ⟨w.heap.size, 3, none⟩) (.inr (Nat.le_refl _)) _).setCell (p := ⟨w.heap.size, 4, none⟩) (.inr (Nat.le_refl _)) _⟩

set_option maxHeartbeats 600000 in
set_option maxRecDepth 100000 in
theorem rline_good {base : Nat} {w : World} {v : Value} {l : List Row} (i j : Nat) (hi : i < 3) (hj : j < 3) (h : RIn base w v l) (hok : ∀ r ∈ l, okRow r) (hl : l.length ≤ 500) :
    Calls Tryz.prog 16 #[v, .int .i64 (i : Nat), .int .i64 (j : Nat)] w fun e w' => ∃ P Q P' Q' E : Int, e = .returned (.agg #[.int .i64 P, .int .i64 Q, .int .i64 P', .int .i64 Q', .int .i64 E]) ∧
      LineRet i j l (.returned (.tuple #[.agg #[.int .i64 P, .int .i64 Q], .agg #[.int .i64 P', .int .i64 Q'], .int .i64 E])) ∧ Keep No w w' := by
  have HW1 := Lib.hid (fun W => within_any (i : Nat) 0 2 W)
  have HW2 := Lib.hid (fun W => within_any (j : Nat) 0 2 W)
  rw [decide_eq_true (show (0 : Int) ≤ (i : Nat) ∧ ((i : Nat) : Int) ≤ 2 from by omega)] at HW1
  rw [decide_eq_true (show (0 : Int) ≤ (j : Nat) ∧ ((j : Nat) : Int) ≤ 2 from by omega)] at HW2
  have B0 := Blk.new w 56 #[.int .i64 0, .int .i64 0, .int .i64 0, .int .i64 0, .int .i64 0]
  have k0 := (Keep.refl No w).alloc (.cells #[.int .i64 0, .int .i64 0, .int .i64 0, .int .i64 0, .int .i64 0] 56)
  have H0 := Lib.hid (show RLs base w _ v l _ from ⟨h.new_ k0, B0, k0⟩)
  obtain ⟨A, c, rfl, hc, _⟩ := h
  clear B0 k0
  have HOK := Lib.hid (show _ ∧ _ from ⟨hok, hl⟩)
  obtain ⟨r0, hr0⟩ : ∃ r0, r0 = l.headD ⟨0, 0, 0, 0⟩ := ⟨_, rfl⟩
  have HR0 := Lib.hid hr0
  have ii : (i : Int) < 3 := by omega
  have jj : (j : Int) < 3 := by omega
  clear hok hr0
  go_enter Tryz.func16, Tryz.ntmps16
  go_wp2_with fail
  generalize w.alloc (.cells #[.int .i64 0, .int .i64 0, .int .i64 0, .int .i64 0, .int .i64 0] 56) = w1 at *
  go_wp2_with (first
    | (go_at_call_of 48 (Value.int IntKind.i64 (i : Nat)); refine (HW1.out _).mono ?_; rintro e w' ⟨rfl, rfl⟩)
    | (go_at_call_of 48 (Value.int IntKind.i64 (j : Nat)); refine (HW2.out _).mono ?_; rintro e w' ⟨rfl, rfl⟩))
  clear HW1 HW2
  go_loopg [7, 8, 9, 10, 11, 12, 13] l.length (fun kx s7 s8 s9 s10 s11 s12 s13 wr => ∃ (k : Nat) (bt : Bool) (n x y xx xy : Int), s13 = .int .i64 k ∧ s7 = .bool bt ∧ s8 = .int .i64 n ∧ s9 = .int .i64 x ∧ s10 = .int .i64 y ∧ s11 = .int .i64 xx ∧ s12 = .int .i64 xy ∧ k ≤ l.length ∧ l.length ≤ k + kx ∧
    Hid (bt = otherCol i r0 (l.take k)) ∧ Hid (RSum i j (l.take k) n x y xx xy) ∧ Hid (RLs base w wr (.slice A l.length c) l #[.int .i64 0, .int .i64 0, .int .i64 0, .int .i64 0, .int .i64 0]))
  case atStart => exact ⟨0, false, 0, 0, 0, 0, 0, rfl, rfl, rfl, rfl, rfl, rfl, rfl, Nat.zero_le _, by omega, Lib.hid rfl, Lib.hid (RSum.of i j (T := []) (by simp) (by simp)), H0⟩
  case round =>
    clear H0
    obtain ⟨k, bt, n, x, y, xx, xy, rfl, rfl, rfl, rfl, rfl, rfl, rfl, hk, hkx, HT, HS, HL⟩ := hrel
    have j0 : (0 : Int) ≤ (k : Int) := by omega
    by_cases hlt : k < l.length
    · have j1 : (k : Int) < (l.length : Int) := by omega
      have hgd : decide ((k : Int) < (l.length : Int)) = true := decide_eq_true j1
      have jn : (0 : Int) < (l.length : Int) := by omega
      obtain ⟨A0, c0, eA, _, hR⟩ := HL.out.ro
      injection eA with eA _ ec
      subst eA
      subst ec
      obtain ⟨ad, hA, ei⟩ := RowsIn.x hR hlt hi
      obtain ⟨ad', hA', ej⟩ := RowsIn.x hR hlt hj
      obtain ⟨ad2, hA2, e0⟩ := RowsIn.x hR (k := 0) (by omega) hi
      obtain rfl : ad = ad' := Option.some.inj (hA.symm.trans hA')
      obtain rfl : ad = ad2 := Option.some.inj (hA.symm.trans hA2)
      subst hA
      have e0 : wr.cell? (ad.add i) = some (.int .i64 (l[0].x i)) := by rw [Nat.zero_mul] at e0; exact e0
      rw [headD_get ⟨0, 0, 0, 0⟩ (by omega : 0 < l.length), ← HR0.out] at e0
      have htk : l.take k ++ [l[k]] = l.take (k + 1) := List.take_append_getElem hlt
      have hok1 : ∀ s ∈ l.take (k + 1), okRow s := fun s hs => HOK.out.1 s (List.mem_of_mem_take hs)
      have hl1 : (l.take (k + 1)).length ≤ 500 := by rw [List.length_take]; omega
      have HS2 := HS.out.push l[k] (by rw [htk]; exact hl1) (by rw [htk]; exact hok1)
      have HT2 : otherCol i r0 (l.take (k + 1)) = (bt || !decide (l[k].x i = r0.x i)) := by rw [← htk, otherCol_push, HT.out]
      rw [htk] at HS2
      have hxa := (HOK.out.1 _ (List.getElem_mem hlt)).x i
      have hxb := (HOK.out.1 _ (List.getElem_mem hlt)).x j
      have hb1 := HS.out.b
      have hb2 := HS2.b
      obtain ⟨a, ha⟩ : ∃ a, a = l[k].x i := ⟨_, rfl⟩
      obtain ⟨b, hb⟩ : ∃ b, b = l[k].x j := ⟨_, rfl⟩
      obtain ⟨a0, ha0⟩ : ∃ a0, a0 = r0.x i := ⟨_, rfl⟩
      rw [← ha] at ei hxa HS2 hb2 HT2
      rw [← hb] at ej hxb HS2 hb2
      rw [← ha0] at e0 HT2
      have m1 := mul_bd (U := 1000) (V := 1000) hxa hxa
      have m2 := mul_bd (U := 1000) (V := 1000) hxa hxb
      have q1 : IntKind.i64.wrap (n + 1) = n + 1 := fit64 (by omega) (by omega)
      have q2 : IntKind.i64.wrap (x + a) = x + a := fit64 (by omega) (by omega)
      have q3 : IntKind.i64.wrap (y + b) = y + b := fit64 (by omega) (by omega)
      have q4 : IntKind.i64.wrap (a * a) = a * a := fit64 (by omega) (by omega)
      have q5 : IntKind.i64.wrap (xx + a * a) = xx + a * a := fit64 (by omega) (by omega)
      have q6 : IntKind.i64.wrap (a * b) = a * b := fit64 (by omega) (by omega)
      have q7 : IntKind.i64.wrap (xy + a * b) = xy + a * b := fit64 (by omega) (by omega)
      have HS3 := Lib.hid HS2
      have HT3 := Lib.hid HT2
      clear HS2 HT2 htk hok1 hl1 hxa hxb hb1 hb2 ha hb ha0 m1 m2 hA' hA2 HT HS
      have hbn : (a != a0) = !decide (a = a0) := by
        by_cases h : a = a0
        · subst h; simp
        · simp [h]
      have HEN := Lib.hid hbn
      clear hbn
      cases bt with
      | true =>
        go_wp2_with fail
        go_quiet (fail)
        clear ei ej e0
        go_wp2_with fail
        go_roundg (l.length - (k + 1))
        case measure => omega
        case rel => exact ⟨k + 1, true, n + 1, x + a, y + b, xx + a * a, xy + a * b, by go_num, rfl, rfl, rfl, rfl, rfl, rfl, by omega, by omega, Lib.hid (by rw [HT3.out]; rfl), HS3, Lib.hid (HL.out.new_ ((Keep.refl No _).drewN _))⟩
      | false =>
        obtain ⟨bn, hbn⟩ : ∃ bn, (a != a0) = bn := ⟨_, rfl⟩
        have HBN := Lib.hid hbn
        go_wp2_with fail
        go_quiet (fail)
        clear ei ej e0
        go_wp2_with fail
        go_roundg (l.length - (k + 1))
        case measure => omega
        case rel => exact ⟨k + 1, bn, n + 1, x + a, y + b, xx + a * a, xy + a * b, by go_num, rfl, rfl, rfl, rfl, rfl, rfl, by omega, by omega, Lib.hid (by rw [HT3.out, ← HEN.out, HBN.out]; rfl), HS3, Lib.hid (HL.out.new_ ((Keep.refl No _).drewN _))⟩
    · obtain rfl : k = l.length := by omega
      have hgd : decide ((l.length : Int) < (l.length : Int)) = false := decide_eq_false (by omega)
      have HS2 := HS.out
      have HT2 := HT.out
      rw [List.take_length] at HS2 HT2
      clear HS HT
      cases bt with
      | false =>
        have HD := Lib.hid (show disc (fun r => r.x i) l = 0 from by
          rcases Nat.eq_zero_or_pos l.length with h0 | h0
          · rw [List.eq_nil_of_length_eq_zero h0]; rfl
          · have hm : r0 ∈ l := by rw [HR0.out, ← headD_get _ h0]; exact List.getElem_mem h0
            have h1 := disc_nonneg (fun r => r.x i) l
            have h2 := disc_other (i := i) hm
            rw [← HT2] at h2
            have : ¬ (0 < disc (fun r => r.x i) l) := fun h => by have := h2.2 h; cases this
            omega)
        have HX := HL
        clear HT2 HS2 HL
        have f0 := HX.out.bk.cell 0
        have f1 := HX.out.bk.cell 1
        have f2 := HX.out.bk.cell 2
        have f3 := HX.out.bk.cell 3
        have f4 := HX.out.bk.cell 4
        have z0 := HX.out.bk.frozen 0
        have z1 := HX.out.bk.frozen 1
        have z2 := HX.out.bk.frozen 2
        have z3 := HX.out.bk.frozen 3
        have z4 := HX.out.bk.frozen 4
        simp only [List.getElem?_toArray, List.getElem?_cons_zero, List.getElem?_cons_succ] at f0 f1 f2 f3 f4
        go_wp2_with fail
        exact bodyPost_ret (results_cell_row rfl _ _ w.heap.size 56 #[.int .i64 0, .int .i64 0, .int .i64 0, .int .i64 0, .int .i64 3] (0, 0) _ rfl (((((HX.out.bk.set_ 0 (.int .i64 0)).set_ 1 (.int .i64 0)).set_ 2 (.int .i64 0)).set_ 3 (.int .i64 0)).set_ 4 (.int .i64 3)) Tryz.underlying56 rfl info_size_lined) rfl
          ⟨0, 0, 0, 0, 3, rfl, .inl ⟨HD.out, rfl⟩, (((((HX.out.kp.setCell (p := ⟨w.heap.size, 0, none⟩) (.inr (Nat.le_refl _)) _).setCell (p := ⟨w.heap.size, 1, none⟩) (.inr (Nat.le_refl _)) _).setCell (p := ⟨w.heap.size, 2, none⟩) (.inr (Nat.le_refl _)) _).setCell (p := ⟨w.heap.size, 3, none⟩) (.inr (Nat.le_refl _)) _).setCell (p := ⟨w.heap.size, 4, none⟩) (.inr (Nat.le_refl _)) _)⟩
      | true =>
        have hm : r0 ∈ l := by
          rcases Nat.eq_zero_or_pos l.length with h0 | h0
          · rw [List.eq_nil_of_length_eq_zero h0] at HT2; cases HT2
          · rw [HR0.out, ← headD_get _ h0]; exact List.getElem_mem h0
        have hD := (disc_other (i := i) hm).1 HT2.symm
        have hB := bnd_rows i j hl HOK.out.1
        have hD0 := Lib.hid hD
        have HXX := Lib.hid (show _ ∧ _ ∧ _ ∧ _ ∧ _ from ⟨HS2.en, HS2.ex, HS2.ey, HS2.exx, HS2.exy⟩)
        rw [← HS2.en, ← HS2.ex, ← HS2.ey, ← HS2.exx, ← HS2.exy] at hB
        clear HT2 hm
        obtain ⟨D, hDe⟩ : ∃ D, D = disc (fun r => r.x i) l := ⟨_, rfl⟩
        obtain ⟨N, hNe⟩ : ∃ N, N = n * xy - x * y := ⟨_, rfl⟩
        obtain ⟨M, hMe⟩ : ∃ M, M = y * xx - x * xy := ⟨_, rfl⟩
        rw [← hDe, ← hNe, ← hMe] at hB
        rw [← hDe] at hD
        have HE := Lib.hid (show _ ∧ _ ∧ _ from ⟨hDe, hNe, hMe⟩)
        obtain ⟨m1, m2, m3, m4, m5, m6, m7, m8, m9, dd1, dd2, dd3⟩ := hB
        have HF1 := Lib.hid (fun W => rfrac_any (n := N) (d := D) W hD dd2 dd1)
        have HF2 := Lib.hid (fun W => rfrac_any (n := M) (d := D) W hD dd3 dd1)
        unfold fracV at HF1 HF2
        clear hDe hNe hMe HS2 dd1 dd2 dd3 hD
        go_wp2_with fail
        refine (HF1.out _).mono ?_
        rintro e w5 ⟨p, q, rfl, hp, hk5⟩
        have HL5 := Lib.hid (HL.out.new_ hk5)
        have HP := Lib.hid hp
        clear hp hk5 HL
        go_wp2_with fail
        refine (HF2.out _).mono ?_
        rintro e w6 ⟨p', q', rfl, hp, hk6⟩
        have HX := Lib.hid (HL5.out.new_ hk6)
        have HP2 := Lib.hid hp
        clear hp hk6 HL5
        have f0 := HX.out.bk.cell 0
        have f1 := HX.out.bk.cell 1
        have f2 := HX.out.bk.cell 2
        have f3 := HX.out.bk.cell 3
        have f4 := HX.out.bk.cell 4
        have z0 := HX.out.bk.frozen 0
        have z1 := HX.out.bk.frozen 1
        have z2 := HX.out.bk.frozen 2
        have z3 := HX.out.bk.frozen 3
        have z4 := HX.out.bk.frozen 4
        simp only [List.getElem?_toArray, List.getElem?_cons_zero, List.getElem?_cons_succ] at f0 f1 f2 f3 f4
        go_wp2_with fail
        exact bodyPost_ret (results_cell_row rfl _ _ w.heap.size 56 #[.int .i64 p, .int .i64 q, .int .i64 p', .int .i64 q', .int .i64 0] (0, 0) _ rfl (((((HX.out.bk.set_ 0 (.int .i64 p)).set_ 1 (.int .i64 q)).set_ 2 (.int .i64 p')).set_ 3 (.int .i64 q')).set_ 4 (.int .i64 0)) Tryz.underlying56 rfl info_size_lined) rfl
          ⟨p, q, p', q', 0, rfl, .inr ⟨hD0.out, p, q, p', q', rfl, by
            have h := HP.out
            rw [HE.out.1, HE.out.2.1, HXX.out.1, HXX.out.2.1, HXX.out.2.2.1, HXX.out.2.2.2.2] at h
            exact h, by
            have h := HP2.out
            rw [HE.out.1, HE.out.2.2, HXX.out.2.1, HXX.out.2.2.1, HXX.out.2.2.2.1, HXX.out.2.2.2.2] at h
            exact h⟩, (((((HX.out.kp.setCell (p := ⟨w.heap.size, 0, none⟩) (.inr (Nat.le_refl _)) _).setCell (p := ⟨w.heap.size, 1, none⟩) (.inr (Nat.le_refl _)) _).setCell (p := ⟨w.heap.size, 2, none⟩) (.inr (Nat.le_refl _)) _).setCell (p := ⟨w.heap.size, 3, none⟩) (.inr (Nat.le_refl _)) _).setCell (p := ⟨w.heap.size, 4, none⟩) (.inr (Nat.le_refl _)) _)⟩

theorem rline_any {base : Nat} {w : World} {v : Value} {l : List Row} (by_ of_ : Int) (h : RIn base w v l) (hok : ∀ r ∈ l, okRow r) (hl : l.length ≤ 500) :
    Calls Tryz.prog 16 #[v, .int .i64 by_, .int .i64 of_] w fun e w' => ∃ P Q P' Q' E : Int, e = .returned (.agg #[.int .i64 P, .int .i64 Q, .int .i64 P', .int .i64 Q', .int .i64 E]) ∧
      LineAll by_ of_ l (.returned (.tuple #[.agg #[.int .i64 P, .int .i64 Q], .agg #[.int .i64 P', .int .i64 Q'], .int .i64 E])) ∧ Keep No w w' := by
  by_cases hb : 0 ≤ by_ ∧ by_ < 3 ∧ 0 ≤ of_ ∧ of_ < 3
  · obtain ⟨i, rfl⟩ : ∃ i : Nat, by_ = (i : Int) := ⟨by_.toNat, by omega⟩
    obtain ⟨j, rfl⟩ : ∃ j : Nat, of_ = (j : Int) := ⟨of_.toNat, by omega⟩
    refine (rline_good i j (by omega) (by omega) h hok hl).mono fun e w' ⟨P, Q, P', Q', E, h1, h2, h3⟩ => ⟨P, Q, P', Q', E, h1, ?_, h3⟩
    unfold LineAll
    rw [if_pos hb]
    exact h2
  · refine (rline_bad v by_ of_ hb).mono fun e w' ⟨h1, h2⟩ => ⟨0, 0, 0, 0, 1, h1, ?_, h2⟩
    unfold LineAll
    rw [if_neg hb]
    rfl
end Go.Proofs.YtgabidgpngiecaaGreat
