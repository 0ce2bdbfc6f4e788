/- Contract of learn's lowest. Conditions: each names its own. -/
import Derived.Test.YtgabidgpngiecaaL7
namespace Go.Proofs.Ytgabidgpngiecaa
open Go.RowKit Go.Proofs.YtgabidgpngiecaaKit Go.Proofs.YtgabidgpngiecaaPlain

def fracV (p q : Int) : Value := .agg #[.int .i64 p, .int .i64 q]

theorem gcd_abs {a num den : Int} (h : a.gcd 0 = num.gcd den) : a = (num.gcd den : Int) ∨ -a = (num.gcd den : Int) := by
  rw [Int.gcd_zero_right] at h
  omega
theorem tdiv_abs (n g : Int) : (n.tdiv g).natAbs ≤ n.natAbs := by
  rw [Int.natAbs_tdiv]
  exact Nat.div_le_self ..
theorem tdiv_fit {n g : Int} (h : Mid n) : IntKind.i64.wrap (n.tdiv g) = n.tdiv g := by
  have h1 := tdiv_abs n g
  unfold Mid at h
  exact fit64 (by omega) (by omega)
theorem rem_lt {a b : Int} (hb : b ≠ 0) : (a.tmod b).natAbs < b.natAbs := by
  rw [Int.natAbs_tmod]
  exact Nat.mod_lt _ (by omega)
theorem rem_fit {a b : Int} (h : Mid b) (hb : b ≠ 0) : IntKind.i64.wrap (a.tmod b) = a.tmod b ∧ Mid (a.tmod b) := by
  have h1 := rem_lt (a := a) hb
  unfold Mid at *
  exact ⟨fit64 (by omega) (by omega), by omega⟩

theorem info_size_frac : (Try.prog.info? 27).map (·.size) = some 2 := by kernel_rfl
theorem lowest_zero {num den p q : Int} (h : Lowest num den p q) (hp : p = 0) (_hd : 0 < den) : Lowest num den 0 1 := by
  obtain ⟨h1, h2, h3, h4⟩ := h
  subst hp
  have hq : q = 1 := by rw [Int.gcd_zero_left] at h4; omega
  subst hq
  exact ⟨by omega, h2, h3, by simp⟩

set_option maxHeartbeats 2000000 in
set_option maxRecDepth 100000 in
theorem lowest_any {num den : Int} (w : World) (hn : Mid num) (hd : Mid den) (hp : 0 < den) :
    Calls Try.prog 31 #[.int .i64 num, .int .i64 den] w fun e w' => ∃ p q, e = .returned (fracV p q) ∧ Lowest num den p q ∧ Keep No w w' := by
  go_enter Try.func31, Try.ntmps31
  go_wp2_with fail
  have HB := Lib.hid (Blk.new w 27 #[.int .i64 0, .int .i64 0])
  have HK := Lib.hid ((Keep.refl No w).alloc (.cells #[.int .i64 0, .int .i64 0] 27))
  generalize w.alloc (.cells #[.int .i64 0, .int .i64 0] 27) = w1 at *
  have H0 := Lib.hid (show _ ∧ _ from ⟨hn, hd⟩)
  have HP := Lib.hid hp
  clear hn hd hp
  go_loopw [5, 6] (fun v5 v6 wr => ∃ a b : Int, v5 = .int .i64 a ∧ v6 = .int .i64 b ∧ Hid (Int.gcd a b = Int.gcd num den ∧ Mid a ∧ Mid b) ∧ Hid (∃ q, wr = w1.drewN q)) (fun _ v _ => (intOf v).natAbs)
  case atStart => exact ⟨num, den, rfl, rfl, Lib.hid ⟨rfl, H0.out.1, H0.out.2⟩, Lib.hid ⟨0, rfl⟩⟩
  case round =>
    obtain ⟨a, b, rfl, rfl, hI, hW⟩ := hrel
    obtain ⟨q0, hq0⟩ := hW.out
    have HBr := Lib.hid (show Blk wr w.heap.size 27 #[.int .i64 0, .int .i64 0] from hq0 ▸ HB.out.drewN q0)
    have HKr := Lib.hid (show Keep No w wr from hq0 ▸ HK.out.drewN q0)
    by_cases hb : b = 0
    · subst hb
      clear hq0 hW HB HK
      have hg := gcd_abs hI.out.1
      have hgp : 0 < Int.gcd num den := Int.gcd_pos_of_ne_zero_right _ (by have := HP.out; omega)
      have hL := Lib.hid (lowest_of (num := num) HP.out)
      obtain ⟨g, hgd⟩ : ∃ g : Int, g = (Int.gcd num den : Int) := ⟨_, rfl⟩
      rw [← hgd] at hL hg
      have hg0 : 0 < g := by omega
      have hg1 : g ≠ 0 := by omega
      have hgm : g ≤ 1000000000000000 := by have := hI.out.2.1; unfold Mid at this; omega
      have hwn := tdiv_fit (g := g) H0.out.1
      have hwd := tdiv_fit (g := g) H0.out.2
      obtain ⟨p, hpe⟩ : ∃ p, num.tdiv g = p := ⟨_, rfl⟩
      obtain ⟨q, hqe⟩ : ∃ q, den.tdiv g = q := ⟨_, rfl⟩
      rw [hpe] at hL hwn
      rw [hqe] at hL hwd
      have HI := Lib.hid hgd
      clear hgd hI H0
      have f0 := HBr.out.cell 0
      have f1 := HBr.out.cell 1
      have z0 := HBr.out.frozen 0
      have z1 := HBr.out.frozen 1
      have hlt := HBr.out.lt
      simp only [List.getElem?_toArray, List.getElem?_cons_zero, List.getElem?_cons_succ] at f0 f1
      by_cases ha : a < 0
      · have hneg : IntKind.i64.wrap (-a) = g := by rw [show -a = g by omega]; exact fit64 (by omega) (by omega)
        go_wp2_with fail
        go_region
        all_goals
          go_wp2_with fail
          all_goals first
            | (rename_i h0
               have hL0 := lowest_zero hL.out h0 HP.out
               exact bodyPost_ret (results_cell_row rfl _ _ w.heap.size 27 #[.int .i64 0, .int .i64 1] (0, 0) _ rfl (((HBr.out.set_ 0 (.int .i64 0)).set_ 1 (.int .i64 1)).alloc _).drew Try.underlying27 rfl info_size_frac) rfl
                 ⟨0, 1, rfl, hL0, (((HKr.out.setCell (p := ⟨w.heap.size, 0, none⟩) (.inr (Nat.le_refl _)) _).setCell (p := ⟨w.heap.size, 1, none⟩) (.inr (Nat.le_refl _)) _).alloc _).drew⟩)
            | (exact bodyPost_ret (results_cell_row rfl _ _ w.heap.size 27 #[.int .i64 p, .int .i64 q] (0, 0) _ rfl (((HBr.out.set_ 0 (.int .i64 p)).set_ 1 (.int .i64 q)).alloc _).drew Try.underlying27 rfl info_size_frac) rfl
                 ⟨p, q, rfl, hL.out, (((HKr.out.setCell (p := ⟨w.heap.size, 0, none⟩) (.inr (Nat.le_refl _)) _).setCell (p := ⟨w.heap.size, 1, none⟩) (.inr (Nat.le_refl _)) _).alloc _).drew⟩)
      · obtain rfl : a = g := by omega
        go_wp2_with fail
        go_region
        all_goals
          go_wp2_with fail
          all_goals first
            | (rename_i h0
               have hL0 := lowest_zero hL.out h0 HP.out
               exact bodyPost_ret (results_cell_row rfl _ _ w.heap.size 27 #[.int .i64 0, .int .i64 1] (0, 0) _ rfl (((HBr.out.set_ 0 (.int .i64 0)).set_ 1 (.int .i64 1)).alloc _).drew Try.underlying27 rfl info_size_frac) rfl
                 ⟨0, 1, rfl, hL0, (((HKr.out.setCell (p := ⟨w.heap.size, 0, none⟩) (.inr (Nat.le_refl _)) _).setCell (p := ⟨w.heap.size, 1, none⟩) (.inr (Nat.le_refl _)) _).alloc _).drew⟩)
            | (exact bodyPost_ret (results_cell_row rfl _ _ w.heap.size 27 #[.int .i64 p, .int .i64 q] (0, 0) _ rfl (((HBr.out.set_ 0 (.int .i64 p)).set_ 1 (.int .i64 q)).alloc _).drew Try.underlying27 rfl info_size_frac) rfl
                 ⟨p, q, rfl, hL.out, (((HKr.out.setCell (p := ⟨w.heap.size, 0, none⟩) (.inr (Nat.le_refl _)) _).setCell (p := ⟨w.heap.size, 1, none⟩) (.inr (Nat.le_refl _)) _).alloc _).drew⟩)
    · have hb' := hb
      clear HBr HKr
      have hwr := rem_fit (a := a) (b := b) hI.out.2.2 hb
      have hms : Mid (a.tmod b) := hwr.2
      have hwr1 := hwr.1
      clear hwr
      go_wp2_with fail
      go_quiet (fail)
      go_wp2_with fail
      go_roundw
      case rel => exact ⟨b, a.tmod b, rfl, rfl, Lib.hid ⟨(gcd_step a b).trans hI.out.1, hI.out.2.2, hms⟩, Lib.hid (by exact ⟨q0 + nq, by first | rfl | (simp [World.drewN, Nat.add_assoc]) | (rw [hq0]; simp [World.drewN, Nat.add_assoc])⟩)⟩
      case measure => simp [intOf]; exact Nat.mod_lt _ (by omega)
end Go.Proofs.Ytgabidgpngiecaa
