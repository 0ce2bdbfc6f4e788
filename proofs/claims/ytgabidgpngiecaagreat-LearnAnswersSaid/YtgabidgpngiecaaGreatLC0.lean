/- Contract of the law's alive. Conditions: none. -/
import Derived.Test.YtgabidgpngiecaaGreatLA0
namespace Go.Proofs.YtgabidgpngiecaaGreat
open Go.RowKit Go.Proofs.YtgabidgpngiecaaGreatKit Go.Proofs.YtgabidgpngiecaaGreatPlain

theorem lowest_one {num p q : Int} (h : Lowest num 1 p q) : p = num ∧ q = 1 := by
  obtain ⟨h1, h2, h3, h4⟩ := h
  have hg : Int.gcd num 1 = 1 := Int.gcd_one_right _
  rw [hg] at h2 h3
  exact ⟨by omega, by omega⟩
theorem alive_line {e : Ending} (h : LineRet 0 1 [⟨1, 3, 0, 1⟩, ⟨0, 1, 0, 0⟩] e) : e = .returned (.tuple #[.agg #[.int .i64 2, .int .i64 1], .agg #[.int .i64 1, .int .i64 1], .int .i64 0]) := by
  have hd : disc (fun r => r.x 0) [⟨1, 3, 0, 1⟩, ⟨0, 1, 0, 0⟩] = 1 := rfl
  rcases h with ⟨h, _⟩ | ⟨_, p, q, p', q', rfl, h1, h2⟩
  · rw [hd] at h; cases h
  · rw [hd] at h1 h2
    obtain ⟨rfl, rfl⟩ := lowest_one h1
    obtain ⟨rfl, rfl⟩ := lowest_one h2
    rfl

set_option maxHeartbeats 2000000 in
set_option maxRecDepth 100000 in
theorem alive_any (w : World) : Calls Tryz.prog 6 #[] w fun e w' => e = .returned (.bool true) ∧ Keep No w w' := by
  have H0 := Lib.hid (show Mdl w.heap.size ((w.alloc (.map #[] 0)).alloc (.cells #[.bool true, .map (some w.heap.size), .int .i64 0] 43)) (w.heap.size + 1) w.heap.size [] from Mdl.made (Nat.le_refl _))
  have K0 := Lib.hid (show Keep No w ((w.alloc (.map #[] 0)).alloc (.cells #[.bool true, .map (some w.heap.size), .int .i64 0] 43)) from ((Keep.refl No w).alloc _).alloc _)
  have L1 := Lib.hid (learn_yes ⟨0, 1, 0, 0⟩ H0.out (by decide) (by decide))
  unfold Row.v at L1
  go_enter Tryz.func6, Tryz.ntmps6
  go_wp2_with (go_at_call 5; refine (new_any w).mono ?_; rintro e w' ⟨rfl, rfl⟩)
  generalize (w.alloc (.map #[] 0)).alloc (.cells #[.bool true, .map (some w.heap.size), .int .i64 0] 43) = w1 at *
  refine L1.out.mono ?_
  rintro e w2 ⟨rfl, hm2, hk2⟩
  have L2 := Lib.hid (learn_yes ⟨1, 3, 0, 1⟩ hm2 (by decide) (by decide))
  have K2 := Lib.hid (show Keep No w w2 from K0.out.trans hk2 (fun x e => .inr (by rcases e with rfl | rfl <;> omega)))
  unfold Row.v at L2
  clear hm2 hk2 L1
  go_wp2_with fail
  refine L2.out.mono ?_
  rintro e w3 ⟨rfl, hm3, hk3⟩
  have LL := Lib.hid (line_any 0 1 hm3 (by decide) (by decide))
  have K3 := Lib.hid (show Keep No w w3 from K2.out.trans hk3 (fun x e => .inr (by rcases e with rfl | rfl <;> omega)))
  have M3 := Lib.hid hm3
  clear hm3 hk3 L2
  go_wp2_with fail
  refine LL.out.mono ?_
  rintro e w4 ⟨hl4, hk4⟩
  obtain rfl := alive_line hl4
  have K4 := Lib.hid (K3.out.trans hk4 (fun _ x => x.elim))
  have ML := Lib.hid (fun W (hW : Keep No w4 W) => mlen_any ((M3.out.new_ hk4).new_ hW))
  clear hk4 hl4 LL
  go_wp2_with fail
  refine (ML.out _ (((Keep.refl No w4).alloc _).alloc _)).mono ?_
  rintro e w5 ⟨rfl, rfl⟩
  clear ML M3
  go_wp2_with fail
  go_ret
  exact ⟨rfl, (K4.out.alloc _).alloc _⟩
end Go.Proofs.YtgabidgpngiecaaGreat
