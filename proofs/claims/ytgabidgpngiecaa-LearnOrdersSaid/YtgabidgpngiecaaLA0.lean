/- Contracts of the law's mod, lowest, built. Conditions: each names its own. -/
import Derived.Test.YtgabidgpngiecaaL9
import Derived.Test.YtgabidgpngiecaaLP2
namespace Go.Proofs.Ytgabidgpngiecaa
open Go.RowKit Go.Proofs.YtgabidgpngiecaaKit Go.Proofs.YtgabidgpngiecaaPlain

theorem mod_any {x p : Int} (w : World) (hp : 0 < p) (hp2 : p < 4294967296) :
    Calls Try.prog 14 #[.int .i64 x, .int .i64 p] w fun e w' => e = .returned (.int .i64 (x % p)) ∧ w = w' := by
  have ha := rem_lt (a := x) (b := p) (by omega)
  have e1 : IntKind.i64.wrap (x.tmod p) = x.tmod p := fit64 (by omega) (by omega)
  have e2 : IntKind.i64.wrap (x.tmod p + p) = x.tmod p + p := fit64 (by omega) (by omega)
  have e3 : (x.tmod p + p).tmod p = x % p := md_eq hp
  have hb1 := Int.emod_nonneg x (show p ≠ 0 by omega)
  have hb2 := Int.emod_lt_of_pos x hp
  have e4 : IntKind.i64.wrap (x % p) = x % p := fit64 (by omega) (by omega)
  have hp0 : p ≠ 0 := by omega
  generalize x % p = m at *
  clear ha hb1 hb2
  go_enter Try.func14, Try.ntmps14
  go_wp2
  go_ret
  exact ⟨rfl, rfl⟩

set_option maxHeartbeats 2000000 in
theorem lawlowest_any {p q : Int} (w : World) (hg : Int.gcd p q = 1) (hq : 0 < q) (m1 : Mid p) (m2 : Mid q) :
    Calls Try.prog 13 #[.agg #[.int .i64 p, .int .i64 q]] w fun e w' => e = .returned (.bool true) ∧ Keep No w w' := by
  have HK := Lib.hid ((Keep.refl No w).alloc (.cells #[.int .i64 p, .int .i64 q] 27))
  have f0 := (Blk.new w 27 #[.int .i64 p, .int .i64 q]).cell 0
  have f1 := (Blk.new w 27 #[.int .i64 p, .int .i64 q]).cell 1
  simp only [List.getElem?_toArray, List.getElem?_cons_zero, List.getElem?_cons_succ] at f0 f1
  obtain ⟨a0, ha0⟩ : ∃ a0 : Int, a0 = (p.natAbs : Int) := ⟨_, rfl⟩
  have hneg : p < 0 → IntKind.i64.wrap (-p) = a0 := fun h => by unfold Mid at m1; rw [show -p = a0 by omega]; exact fit64 (by omega) (by omega)
  have hpos : ¬ p < 0 → p = a0 := fun h => by omega
  have hm : Mid a0 := by unfold Mid at *; omega
  have H0 := Lib.hid (show Int.gcd a0 q = 1 ∧ Mid a0 ∧ Mid q ∧ 0 ≤ a0 ∧ 0 ≤ q from ⟨by rw [ha0, Int.gcd, Int.natAbs_natCast]; exact hg, hm, m2, by omega, by omega⟩)
  clear hm m1 m2 hg ha0 hq
  by_cases hp : p < 0
  · have hn := hneg hp
    clear hneg hpos
    go_enter Try.func13, Try.ntmps13
    go_wp2_with fail
    generalize w.alloc (.cells #[.int .i64 p, .int .i64 q] 27) = w1 at *
    go_quiet (fail)
    go_wp2_with fail
    go_loopw [3, 4] (fun v3 v4 wr => ∃ a b : Int, v3 = .int .i64 a ∧ v4 = .int .i64 b ∧ Hid (Int.gcd a b = 1 ∧ Mid a ∧ Mid b ∧ 0 ≤ a ∧ 0 ≤ b) ∧ Hid (∃ q, wr = w1.drewN q)) (fun _ v _ => (intOf v).natAbs)
    case atStart => exact ⟨a0, q, rfl, rfl, H0, Lib.hid ⟨nq, rfl⟩⟩
    case round =>
      obtain ⟨a, b, rfl, rfl, hI, hW⟩ := hrel
      obtain ⟨n0, hn0⟩ := hW.out
      have HKr := Lib.hid (show Keep No w wr from hn0 ▸ HK.out.drewN n0)
      by_cases hb : b = 0
      · subst hb
        obtain rfl : a = 1 := by
          have := hI.out
          rw [Int.gcd_zero_right] at this
          omega
        clear hI hW hn0
        go_wp2
        go_ret
        exact ⟨rfl, HKr.out⟩
      · have hrf := rem_fit (a := a) (b := b) hI.out.2.2.1 hb
        have hms : Mid (a.tmod b) := hrf.2
        have hwr1 := hrf.1
        have hnn := Int.tmod_nonneg b hI.out.2.2.2.1
        have HN := Lib.hid (show _ ∧ _ from ⟨hms, hnn⟩)
        clear hrf hms hnn
        go_wp2_with fail
        go_quiet (fail)
        go_wp2_with fail
        go_roundw
        case rel => exact ⟨b, a.tmod b, rfl, rfl, Lib.hid ⟨(gcd_step a b).trans hI.out.1, hI.out.2.2.1, HN.out.1, hI.out.2.2.2.2, HN.out.2⟩, Lib.hid ⟨n0 + nq, by first | rfl | (simp [World.drewN, Nat.add_assoc]) | (rw [hn0]; simp [World.drewN, Nat.add_assoc])⟩⟩
        case measure => simp [intOf]; exact Nat.mod_lt _ (by omega)
  · obtain rfl := hpos hp
    clear hneg hpos
    go_enter Try.func13, Try.ntmps13
    go_wp2_with fail
    generalize w.alloc (.cells #[.int .i64 p, .int .i64 q] 27) = w1 at *
    go_quiet (fail)
    go_wp2_with fail
    go_loopw [3, 4] (fun v3 v4 wr => ∃ a b : Int, v3 = .int .i64 a ∧ v4 = .int .i64 b ∧ Hid (Int.gcd a b = 1 ∧ Mid a ∧ Mid b ∧ 0 ≤ a ∧ 0 ≤ b) ∧ Hid (∃ q, wr = w1.drewN q)) (fun _ v _ => (intOf v).natAbs)
    case atStart => exact ⟨p, q, rfl, rfl, H0, Lib.hid ⟨nq, rfl⟩⟩
    case round =>
      obtain ⟨a, b, rfl, rfl, hI, hW⟩ := hrel
      obtain ⟨n0, hn0⟩ := hW.out
      have HKr := Lib.hid (show Keep No w wr from hn0 ▸ HK.out.drewN n0)
      by_cases hb : b = 0
      · subst hb
        obtain rfl : a = 1 := by
          have := hI.out
          rw [Int.gcd_zero_right] at this
          omega
        clear hI hW hn0
        go_wp2
        go_ret
        exact ⟨rfl, HKr.out⟩
      · have hrf := rem_fit (a := a) (b := b) hI.out.2.2.1 hb
        have hms : Mid (a.tmod b) := hrf.2
        have hwr1 := hrf.1
        have hnn := Int.tmod_nonneg b hI.out.2.2.2.1
        have HN := Lib.hid (show _ ∧ _ from ⟨hms, hnn⟩)
        clear hrf hms hnn
        go_wp2_with fail
        go_quiet (fail)
        go_wp2_with fail
        go_roundw
        case rel => exact ⟨b, a.tmod b, rfl, rfl, Lib.hid ⟨(gcd_step a b).trans hI.out.1, hI.out.2.2.1, HN.out.1, hI.out.2.2.2.2, HN.out.2⟩, Lib.hid ⟨n0 + nq, by first | rfl | (simp [World.drewN, Nat.add_assoc]) | (rw [hn0]; simp [World.drewN, Nat.add_assoc])⟩⟩
        case measure => simp [intOf]; exact Nat.mod_lt _ (by omega)
end Go.Proofs.Ytgabidgpngiecaa
