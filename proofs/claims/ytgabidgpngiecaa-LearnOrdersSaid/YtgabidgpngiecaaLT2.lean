/- Contract of learn's worth. Conditions: each names its own. -/
import Derived.Test.YtgabidgpngiecaaLT1
namespace Go.Proofs.Ytgabidgpngiecaa
open Go.RowKit Go.Proofs.YtgabidgpngiecaaKit Go.Proofs.YtgabidgpngiecaaPlain

def wNum (a b : Nat → Nat) : Int := sqC a 8 * totC b 8 + sqC b 8 * totC a 8
def wDen (a b : Nat → Nat) : Int := totC a 8 * totC b 8
theorem cnt8_le {T : List Row} (h : T.length ≤ 500) : ∀ i, i < 8 → cnt8 T i ≤ 1000 := fun i _ => by have := cntL_le T (i : Nat); unfold cnt8; omega
theorem mul_in {x y X Y : Int} (h1 : 0 ≤ x) (h2 : x ≤ X) (h3 : 0 ≤ y) (h4 : y ≤ Y) : 0 ≤ x * y ∧ x * y ≤ X * Y := ⟨Int.mul_nonneg h1 h3, Int.mul_le_mul h2 h4 h3 (by omega)⟩
theorem ret_pair {a b c d : Int} (h1 : a = c) (h2 : b = d) : Ending.returned (.tuple #[.int .i64 a, .int .i64 b]) = .returned (.tuple #[.int .i64 c, .int .i64 d]) := by rw [h1, h2]
theorem worth_fit {a b : Nat → Nat} (ha : ∀ i, i < 8 → a i ≤ 1000) (hb : ∀ i, i < 8 → b i ≤ 1000) : IntKind.i64.wrap (sqC a 8 * totC b 8) = sqC a 8 * totC b 8 ∧ IntKind.i64.wrap (sqC b 8 * totC a 8) = sqC b 8 * totC a 8 ∧ IntKind.i64.wrap (sqC a 8 * totC b 8 + sqC b 8 * totC a 8) = sqC a 8 * totC b 8 + sqC b 8 * totC a 8 ∧ IntKind.i64.wrap (totC a 8 * totC b 8) = totC a 8 * totC b 8 := by
  have h1 := sqC_bd ha 8 (Nat.le_refl _)
  have h2 := sqC_bd hb 8 (Nat.le_refl _)
  have h3 := totC_bd ha 8 (Nat.le_refl _)
  have h4 := totC_bd hb 8 (Nat.le_refl _)
  have m1 := mul_in (X := 8000000) (Y := 8000) h1.1 (by omega) h4.1 (by omega)
  have m2 := mul_in (X := 8000000) (Y := 8000) h2.1 (by omega) h3.1 (by omega)
  have m3 := mul_in (X := 8000) (Y := 8000) h3.1 (by omega) h4.1 (by omega)
  exact ⟨IntWalk.i64_in _ ⟨by omega, by omega⟩, IntWalk.i64_in _ ⟨by omega, by omega⟩, IntWalk.i64_in _ ⟨by omega, by omega⟩, IntWalk.i64_in _ ⟨by omega, by omega⟩⟩

set_option maxHeartbeats 1000000 in
set_option maxRecDepth 100000 in
theorem worth_any {B : Nat} {w : World} {lv hv : Value} {LO HI : List (Row × Nat)} (hlo : Cnt B w lv LO) (hhi : Cnt B w hv HI) (hl : (expand LO).length ≤ 500) (hh : (expand HI).length ≤ 500) (okl : ∀ p ∈ LO, 0 < p.2 ∧ okRow p.1) (okh : ∀ p ∈ HI, 0 < p.2 ∧ okRow p.1) :
    Calls Try.prog 61 #[lv, hv] w fun e w' => e = .returned (.tuple #[.int .i64 (wNum (cnt8 (expand LO)) (cnt8 (expand HI))), .int .i64 (wDen (cnt8 (expand LO)) (cnt8 (expand HI)))]) ∧ Keep No w w' := by
  have HW := Lib.hid (worth_fit (cnt8_le hl) (cnt8_le hh))
  have HSa := Lib.hid (fun W => squares_any _ (cnt8_le hl) W)
  have HSb := Lib.hid (fun W => squares_any _ (cnt8_le hh) W)
  have HLO := Lib.hid hlo
  have HHI := Lib.hid hhi
  have HL := Lib.hid (show _ ∧ _ from ⟨hl, hh⟩)
  have HOK := Lib.hid (show _ ∧ _ from ⟨okl, okh⟩)
  have lt1 := Lib.hid (fun k e => (hlo.lt k e).2)
  have lt2 := Lib.hid (fun k e => (hhi.lt k e).2)
  clear hlo hhi hl hh okl okh
  obtain ⟨ca, hca⟩ : ∃ ca, cnt8 (expand LO) = ca := ⟨_, rfl⟩
  obtain ⟨cb, hcb⟩ : ∃ cb, cnt8 (expand HI) = cb := ⟨_, rfl⟩
  rw [hca, hcb] at HW ⊢
  rw [hca] at HSa
  rw [hcb] at HSb
  have HCA := Lib.hid (show _ ∧ _ from ⟨hca, hcb⟩)
  clear hca hcb
  have HD := Lib.hid (show wNum ca cb = sqC ca 8 * totC cb 8 + sqC cb 8 * totC ca 8 ∧ wDen ca cb = totC ca 8 * totC cb 8 from ⟨rfl, rfl⟩)
  unfold labV at HSa HSb
  go_enter Try.func61, Try.ntmps61
  go_wp2_with fail
  have HA1 := Lib.hid (show LbAt ((w.alloc (.cells #[.int .i64 0, .int .i64 0, .int .i64 0, .int .i64 0, .int .i64 0, .int .i64 0, .int .i64 0, .int .i64 0] 93)).alloc (.cells #[.int .i64 0, .int .i64 0, .int .i64 0, .int .i64 0, .int .i64 0, .int .i64 0, .int .i64 0, .int .i64 0] 93)) w.heap.size [] from (Blk.new w _ _).keep ((Keep.refl No _).alloc _) (fun x => x))
  have hsz : (w.alloc (.cells #[.int .i64 0, .int .i64 0, .int .i64 0, .int .i64 0, .int .i64 0, .int .i64 0, .int .i64 0, .int .i64 0] 93)).heap.size = w.heap.size + 1 := by simp
  have HB1 := Lib.hid (show LbAt ((w.alloc (.cells #[.int .i64 0, .int .i64 0, .int .i64 0, .int .i64 0, .int .i64 0, .int .i64 0, .int .i64 0, .int .i64 0] 93)).alloc (.cells #[.int .i64 0, .int .i64 0, .int .i64 0, .int .i64 0, .int .i64 0, .int .i64 0, .int .i64 0, .int .i64 0] 93)) (w.heap.size + 1) [] from hsz ▸ Blk.new (w.alloc (.cells #[.int .i64 0, .int .i64 0, .int .i64 0, .int .i64 0, .int .i64 0, .int .i64 0, .int .i64 0, .int .i64 0] 93)) _ _)
  have HK1 := Lib.hid (((Keep.refl No w).alloc (.cells #[.int .i64 0, .int .i64 0, .int .i64 0, .int .i64 0, .int .i64 0, .int .i64 0, .int .i64 0, .int .i64 0] 93)).alloc (.cells #[.int .i64 0, .int .i64 0, .int .i64 0, .int .i64 0, .int .i64 0, .int .i64 0, .int .i64 0, .int .i64 0] 93))
  clear hsz
  generalize (w.alloc (.cells #[.int .i64 0, .int .i64 0, .int .i64 0, .int .i64 0, .int .i64 0, .int .i64 0, .int .i64 0, .int .i64 0] 93)).alloc (.cells #[.int .i64 0, .int .i64 0, .int .i64 0, .int .i64 0, .int .i64 0, .int .i64 0, .int .i64 0, .int .i64 0] 93) = w1 at *
  refine (telll_any (HLO.out.keep HK1.out (fun _ _ x => x)) HA1.out (fun k e => by have := lt1.out k e; omega) HL.out.1 HOK.out.1).mono ?_
  rintro e w2 ⟨rfl, ha2, hk2⟩
  have HA2 := Lib.hid ha2
  have HB2 := Lib.hid (show LbAt w2 (w.heap.size + 1) [] from Blk.keep HB1.out hk2 (fun e => by omega))
  have HK2 := Lib.hid (show Keep No w w2 from HK1.out.trans hk2 (fun k e => .inr (by omega)))
  clear ha2 hk2 HA1 HB1 HK1
  go_wp2_with fail
  refine (telll_any (HHI.out.keep HK2.out (fun _ _ x => x)) HB2.out (fun k e => by have := lt2.out k e; omega) HL.out.2 HOK.out.2).mono ?_
  rintro e w3 ⟨rfl, hb3, hk3⟩
  have HA3 := Lib.hid (show LbC w3 w.heap.size ca from HCA.out.1 ▸ LbAt.c (T := expand LO) (Blk.keep HA2.out hk3 (fun e => by omega)))
  have HB3 := Lib.hid (show LbC w3 (w.heap.size + 1) cb from HCA.out.2 ▸ LbAt.c (T := expand HI) hb3)
  have HK3 := Lib.hid (show Keep No w w3 from HK2.out.trans hk3 (fun k e => .inr (by omega)))
  clear hb3 hk3 HA2 HB2 HK2
  have f0 := HA3.out.at_ (k := 0) (by omega)
  have f1 := HA3.out.at_ (k := 1) (by omega)
  have f2 := HA3.out.at_ (k := 2) (by omega)
  have f3 := HA3.out.at_ (k := 3) (by omega)
  have f4 := HA3.out.at_ (k := 4) (by omega)
  have f5 := HA3.out.at_ (k := 5) (by omega)
  have f6 := HA3.out.at_ (k := 6) (by omega)
  have f7 := HA3.out.at_ (k := 7) (by omega)
  go_wp2_with fail
  clear f0 f1 f2 f3 f4 f5 f6 f7
  refine (HSa.out _).mono ?_
  rintro e w4 ⟨rfl, hk4⟩
  have HB4 := Lib.hid (show LbC w4 (w.heap.size + 1) cb from Blk.keep HB3.out hk4 (fun x => x))
  have HK4 := Lib.hid (HK3.out.trans hk4 (fun _ x => x.elim))
  clear hk4 HA3 HB3 HK3 HSa
  have f0 := HB4.out.at_ (k := 0) (by omega)
  have f1 := HB4.out.at_ (k := 1) (by omega)
  have f2 := HB4.out.at_ (k := 2) (by omega)
  have f3 := HB4.out.at_ (k := 3) (by omega)
  have f4 := HB4.out.at_ (k := 4) (by omega)
  have f5 := HB4.out.at_ (k := 5) (by omega)
  have f6 := HB4.out.at_ (k := 6) (by omega)
  have f7 := HB4.out.at_ (k := 7) (by omega)
  go_wp2_with fail
  clear f0 f1 f2 f3 f4 f5 f6 f7
  refine (HSb.out _).mono ?_
  rintro e w5 ⟨rfl, hk5⟩
  have HK5 := Lib.hid (HK4.out.trans hk5 (fun _ x => x.elim))
  clear hk5 HB4 HK4 HSb
  obtain ⟨q1, q2, q3, q4⟩ := HW.out
  clear HW
  go_wp2_with fail
  go_ret2
  exact ⟨ret_pair HD.out.1.symm HD.out.2.symm, HK5.out⟩
end Go.Proofs.Ytgabidgpngiecaa
