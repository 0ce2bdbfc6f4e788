/- Contract of symMerge where the second part has one element (printed by stab.py). Conditions: each names its own. -/
import Derived.Test.YtgabidgpngiecaaGreatSS1
namespace Go.Proofs.YtgabidgpngiecaaGreat
open Go.RowKit Go.Lib Go.Sort Go.Proofs Go.Proofs.YtgabidgpngiecaaGreatPlain
section
variable {α : Type} [Inhabited α] {enc : α → List Value} {w0 W : World} {blk : Nat} {d0 : Array α}
set_option maxHeartbeats 2000000 in
set_option maxRecDepth 1000000 in
theorem symMerge_last (hN : Nums enc) (Rw : RowK enc 5 w0 blk 0 d0) (cf : α → α → Int) (hO : SWO (ltOf cf)) (g : Nat) (cb : Array Value) (eg : ∀ args w, (callFunc g args).run Tryz.prog w = .ok (.enter g args) w) (hcmp : CmpLays Tryz.prog g cb enc 5 cf blk 0 d0.size w0) (hsz : d0.size < 4611686018427387904) (cap : Nat) (A X : List α) (y : α) (B : List α) (a m b : Nat) (h1 : 1 < X.length) (ha : a = A.length) (hm : m = A.length + X.length) (hb : b = A.length + X.length + [y].length) (_hX : 0 < X.length) (hY : 0 < [y].length) (hs : d0.size = (A ++ (X ++ ([y] ++ B))).length) (hsX : Srt (ltOf cf) X) (hsY : Srt (ltOf cf) [y]) (S : SWK enc 5 w0 blk 0 (A ++ (X ++ ([y] ++ B))).toArray W) :
    Calls Tryz.prog 76 #[.slice (some ⟨blk, 0, none⟩) d0.size cap, .int .i64 a, .int .i64 m, .int .i64 b, .func (.func g) #[] cb] W fun e w' =>
      e = .returned (.tuple #[]) ∧ SWK enc 5 w0 blk 0 (A ++ (mrg (ltOf cf) X [y] ++ B)).toArray w' := by
  have mixed : Tryz.prog.follows .mixedOrders = true := by kernel_rfl
  have HC := Lib.hid hcmp
  obtain ⟨D, hD⟩ : ∃ D : Array α, D = (A ++ (X ++ ([y] ++ B))).toArray := ⟨_, rfl⟩
  have hP : Parts D A X [y] B a m b := ⟨hD, ha, hm, hb⟩
  have HD := Lib.hid (show D.size = d0.size from by rw [hD, hs]; simp)
  rw [← hD] at S
  have HS := Lib.hid S
  have HP0 := Lib.hid hP
  have HO := Lib.hid hO
  have HXY := Lib.hid (show _ ∧ _ from ⟨hsX, hsY⟩)
  have ham : a < m := by omega
  have hmb : m < b := by omega
  have hbs : b ≤ d0.size := by rw [hs]; simp only [List.length_append]; omega
  clear hcmp
  have hz1 : ((m : Int) - (a : Int) == 1) = false := by simp; omega
  have hz2 : ((b : Int) - (m : Int) == 1) = true := by simp at hb; simp; omega
  have HM : Hid ((∀ t t', a ≤ t → t ≤ t' → t' < m → ltOf cf D[m]! D[t']! = false → ltOf cf D[m]! D[t]! = false) ∧ (∀ t t', a ≤ t → t ≤ t' → t' < m → ltOf cf D[m]! D[t]! = true → ltOf cf D[m]! D[t']! = true)) := Lib.hid ⟨hP.mono2 hO hsX _, mono_not (p := fun t => ltOf cf D[m]! D[t]!) (r := false) (hP.mono2 hO hsX _)⟩
  clear S hD hP hs hsX hsY ha hm hb _hX hY hO h1
  go_enter Tryz.func76, Tryz.ntmps76
  go_wp2_with fail
  go_loopg [14, 15] (m - a) (fun kx s14 s15 wr => ∃ i j : Nat, s14 = .int .i64 i ∧ s15 = .int .i64 j ∧ a ≤ i ∧ i ≤ j ∧ j ≤ m ∧ j - i ≤ kx ∧ Hid (SWK enc 5 w0 blk 0 D wr) ∧ Hid ((∀ t, a ≤ t → t < i → ltOf cf D[m]! D[t]! = false) ∧ (∀ t, j ≤ t → t < m → ltOf cf D[m]! D[t]! = true)))
  case atStart => exact ⟨a, m, rfl, rfl, Nat.le_refl _, by omega, Nat.le_refl _, Nat.le_refl _, HS, Lib.hid ⟨fun t h1 h2 => by omega, fun t h1 h2 => by omega⟩⟩
  case round =>
    clear HS
    obtain ⟨i, j, rfl, rfl, hlo, hij, hhi, hkx, hS, hI⟩ := hrel
    by_cases hlt : i < j
    · have hlz : (i : Int) < (j : Int) := by omega
      have ea1 : ((m : Int)).toNat = m := by omega
      have pa1 : (0 : Int) ≤ (m : Int) := by omega
      have ba1 : (m : Int) < (d0.size : Int) := by omega
      have ra1 : IntKind.i64.wrap ((m : Int)) = (m : Int) := by rw [IntKind.wrap_i64]; omega
      have ea2 : (((i : Int) + (j : Int)) / 2).toNat = (i + j) / 2 := by omega
      have pa2 : (0 : Int) ≤ ((i : Int) + (j : Int)) / 2 := by omega
      have ba2 : ((i : Int) + (j : Int)) / 2 < (d0.size : Int) := by omega
      have ra2 : IntKind.i64.wrap (((i : Int) + (j : Int)) / 2) = ((i : Int) + (j : Int)) / 2 := by rw [IntKind.wrap_i64]; omega
      obtain ⟨xl, hxl⟩ : ∃ x, D[m]! = x := ⟨_, rfl⟩
      obtain ⟨yr, hyr⟩ : ∃ x, D[(i + j) / 2]! = x := ⟨_, rfl⟩
      obtain ⟨x0, x1, x2, x3, x4, ecx⟩ := hN xl
      have haex := fun n os => swk_get (hS.out.grown n os) Rw HD.out (i := m) (by rw [HD.out]; omega) ((congrArg enc hxl).trans ecx)
      have lx0 : ∀ n os, (grow (wr.drewN n) os).cell? ⟨blk, m * 5, none⟩ = some (.int .i64 x0) := fun n os => (haex n os).1.1
      have lx1 : ∀ n os, (grow (wr.drewN n) os).cell? ⟨blk, m * 5 + 1, none⟩ = some (.int .i64 x1) := fun n os => (haex n os).1.2.1
      have lx2 : ∀ n os, (grow (wr.drewN n) os).cell? ⟨blk, m * 5 + 2, none⟩ = some (.int .i64 x2) := fun n os => (haex n os).1.2.2.1
      have lx3 : ∀ n os, (grow (wr.drewN n) os).cell? ⟨blk, m * 5 + 3, none⟩ = some (.int .i64 x3) := fun n os => (haex n os).1.2.2.2.1
      have lx4 : ∀ n os, (grow (wr.drewN n) os).cell? ⟨blk, m * 5 + 4, none⟩ = some (.int .i64 x4) := fun n os => (haex n os).1.2.2.2.2
      obtain ⟨y0, y1, y2, y3, y4, ecy⟩ := hN yr
      have haey := fun n os => swk_get (hS.out.grown n os) Rw HD.out (i := (i + j) / 2) (by rw [HD.out]; omega) ((congrArg enc hyr).trans ecy)
      have ly0 : ∀ n os, (grow (wr.drewN n) os).cell? ⟨blk, (i + j) / 2 * 5, none⟩ = some (.int .i64 y0) := fun n os => (haey n os).1.1
      have ly1 : ∀ n os, (grow (wr.drewN n) os).cell? ⟨blk, (i + j) / 2 * 5 + 1, none⟩ = some (.int .i64 y1) := fun n os => (haey n os).1.2.1
      have ly2 : ∀ n os, (grow (wr.drewN n) os).cell? ⟨blk, (i + j) / 2 * 5 + 2, none⟩ = some (.int .i64 y2) := fun n os => (haey n os).1.2.2.1
      have ly3 : ∀ n os, (grow (wr.drewN n) os).cell? ⟨blk, (i + j) / 2 * 5 + 3, none⟩ = some (.int .i64 y3) := fun n os => (haey n os).1.2.2.2.1
      have ly4 : ∀ n os, (grow (wr.drewN n) os).cell? ⟨blk, (i + j) / 2 * 5 + 4, none⟩ = some (.int .i64 y4) := fun n os => (haey n os).1.2.2.2.2
      have hc := hS.out.cmp HC.out HD.out xl yr
      simp only [ecx, ecy] at hc
      have HP := Lib.hid (show ltOf cf D[m]! D[((i + j) / 2)]! = ltOf cf xl yr from by rw [hxl, hyr])
      clear haex haey ecx ecy hxl hyr
      cases hlv : ltOf cf xl yr with
      | true =>
        have hv : cf xl yr < 0 := of_decide_eq_true hlv
        have hd : decide (cf xl yr < 0) = true := decide_eq_true hv
        have HV := Lib.hid (HP.out.trans hlv)
        clear hlv HP
        go_wp2_with fail
        go_quiet_grown (first | (go_at_fn g; refine Calls.grown_of (hc _ _)))
        have S2 := Lib.hid (hS.out.grown nq osq)
        clear lx0 lx1 lx2 lx3 lx4 ly0 ly1 ly2 ly3 ly4 hc hS
        generalize grow (wr.drewN nq) osq = w2 at S2 ⊢
        clear nq osq
        go_wp2
        go_roundg ((i + j) / 2 - i)
        case measure => omega
        case rel => exact ⟨i, (i + j) / 2, by first | rfl | go_num, by rw [show ((((i + j) / 2 : Nat)) : Int) = ((i : Int) + (j : Int)) / 2 by omega], by omega, by omega, by omega, by omega, S2, Lib.hid ⟨hI.out.1, fun t h1 h2 => HM.out.2 ((i + j) / 2) t (by omega) h1 h2 HV.out⟩⟩
      | false =>
        have hv : ¬ cf xl yr < 0 := of_decide_eq_false hlv
        have hd : decide (cf xl yr < 0) = false := decide_eq_false hv
        have HV := Lib.hid (HP.out.trans hlv)
        clear hlv HP
        go_wp2_with fail
        go_quiet_grown (first | (go_at_fn g; refine Calls.grown_of (hc _ _)))
        have S2 := Lib.hid (hS.out.grown nq osq)
        clear lx0 lx1 lx2 lx3 lx4 ly0 ly1 ly2 ly3 ly4 hc hS
        generalize grow (wr.drewN nq) osq = w2 at S2 ⊢
        clear nq osq
        go_wp2
        go_roundg (j - ((i + j) / 2 + 1))
        case measure => omega
        case rel => exact ⟨(i + j) / 2 + 1, j, by rw [show ((((i + j) / 2 + 1 : Nat)) : Int) = ((i : Int) + (j : Int)) / 2 + 1 by omega], by first | rfl | go_num, by omega, by omega, by omega, by omega, S2, Lib.hid ⟨fun t h1 h2 => HM.out.1 t ((i + j) / 2) h1 (by omega) (by omega) HV.out, hI.out.2⟩⟩
    · obtain rfl : i = j := by omega
      have hlz : ¬ (i : Int) < (i : Int) := by omega
      obtain ⟨p, hp⟩ : ∃ p, i = a + p := ⟨i - a, by omega⟩
      have HPP := Lib.hid hp
      have HMG : Hid (mrg (ltOf cf) X [y] = X.take p ++ y :: X.drop p) := Lib.hid (mrg_one_right (fun t ht h1 => by
        have := hI.out.1 (a + t) (by omega) (by omega)
        rwa [HP0.out.gx ht, show D[m]! = y from HP0.out.gy (t := 0) (by simp)] at this) (fun t ht h1 => by
        have := hI.out.2 (a + t) (by omega) (by have := HP0.out.la; have := HP0.out.lm; omega)
        rwa [HP0.out.gx ht, show D[m]! = y from HP0.out.gy (t := 0) (by simp)] at this))
      have HS := Lib.hid (show SWK enc 5 w0 blk 0 (A ++ (X.take X.length ++ y :: (X.drop X.length ++ B))).toArray wr from by have := hS.out; rw [HP0.out.eq] at this; simpa using this)
      have HXL := Lib.hid (show m = a + X.length from by have := HP0.out.la; have := HP0.out.lm; omega)
      clear hI hS HM hp
      go_wp2_with fail
      go_loopg [17] (m - i) (fun kx s17 wr => ∃ k t : Nat, s17 = .int .i64 k ∧ i ≤ k ∧ k ≤ m ∧ Hid (k = a + t ∧ t ≤ X.length ∧ k = i + kx) ∧ Hid (SWK enc 5 w0 blk 0 (A ++ (X.take t ++ y :: (X.drop t ++ B))).toArray wr))
      case atStart => exact ⟨m, X.length, rfl, by omega, Nat.le_refl _, Lib.hid ⟨HXL.out, Nat.le_refl _, by omega⟩, HS⟩
      case round =>
        clear HS
        obtain ⟨k0, t0, rfl, hki, hkm, HT0, hS⟩ := hrel
        by_cases hlt2 : i < k0
        · obtain ⟨k, rfl⟩ : ∃ k, k0 = k + 1 := ⟨k0 - 1, by omega⟩
          obtain ⟨t, rfl⟩ : ∃ t, t0 = t + 1 := ⟨t0 - 1, by have := HT0.out; have := HPP.out; omega⟩
          have HT := Lib.hid (show k = a + t ∧ t + 1 ≤ X.length ∧ k + 1 = i + gk from by have := HT0.out; omega)
          clear HT0
          have hlz2 : (i : Int) < (k : Int) + 1 := by omega
          have htl : t < X.length := by have := HT.out; omega
          obtain ⟨z, hz⟩ : ∃ z, X[t]? = some z := ⟨_, List.getElem?_eq_getElem htl⟩
          have ez : X.drop t = z :: X.drop (t + 1) := by
            obtain ⟨h1, h2⟩ := List.getElem?_eq_some_iff.1 hz
            rw [← h2]; exact List.drop_eq_getElem_cons h1
          have ez2 : X.take (t + 1) = X.take t ++ [z] := by rw [List.take_add_one, hz]; rfl
          have hk1 : k = (A ++ X.take t).length := by have := HT.out; have := HP0.out.la; simp; omega
          have HE := Lib.hid (show (A ++ (X.take (t + 1) ++ y :: (X.drop (t + 1) ++ B))) = (A ++ X.take t) ++ z :: ([] ++ y :: (X.drop (t + 1) ++ B)) ∧ (A ++ (X.take (t) ++ y :: (X.drop (t) ++ B))) = (A ++ X.take t) ++ y :: ([] ++ z :: (X.drop (t + 1) ++ B)) from ⟨by rw [ez2]; simp, by rw [ez]; simp⟩)
          have HS := Lib.hid (HE.out.1 ▸ hS.out)
          have hsd : ((A ++ X.take t) ++ z :: ([] ++ y :: (X.drop (t + 1) ++ B))).toArray.size = d0.size := by
            rw [← HE.out.1, ← HD.out, HP0.out.eq]; have := HT.out; simp; omega
          have gx : ((A ++ X.take t) ++ z :: ([] ++ y :: (X.drop (t + 1) ++ B))).toArray[k]! = z := at_mid' hk1
          have gy : ((A ++ X.take t) ++ z :: ([] ++ y :: (X.drop (t + 1) ++ B))).toArray[k + 1]! = y := by rw [show (A ++ X.take t) ++ z :: ([] ++ y :: (X.drop (t + 1) ++ B)) = ((A ++ X.take t) ++ [z]) ++ y :: (X.drop (t + 1) ++ B) by simp]; exact at_mid' (by simp at hk1 ⊢; omega)
          obtain ⟨x0, x1, x2, x3, x4, ecx⟩ := hN z
          obtain ⟨⟨lx0, lx1, lx2, lx3, lx4⟩, fx0, fx1, fx2, fx3, fx4⟩ := swk_get HS.out Rw hsd (i := k) (by rw [hk1]; simp) ((congrArg enc gx).trans ecx)
          obtain ⟨y0, y1, y2, y3, y4, ecy⟩ := hN y
          obtain ⟨⟨ly0, ly1, ly2, ly3, ly4⟩, fy0, fy1, fy2, fy3, fy4⟩ := swk_get HS.out Rw hsd (i := k + 1) (by simp at hk1 ⊢; omega) ((congrArg enc gy).trans ecy)
          have H2 := Lib.hid (swk_swap' HS.out Rw hk1 (j := k + 1) (by simp at hk1 ⊢; omega))
          rw [ecx, ecy] at H2
          simp only [World.setCells, Nat.add_assoc, Nat.reduceAdd] at H2
          have hn1a : ¬ (k + 1) * 5 = k * 5 + 1 := by omega
          have hn1b : ¬ (k + 1) * 5 + 1 = k * 5 := by omega
          have hn2a : ¬ (k + 1) * 5 = k * 5 + 2 := by omega
          have hn2b : ¬ (k + 1) * 5 + 2 = k * 5 := by omega
          have hn3a : ¬ (k + 1) * 5 = k * 5 + 3 := by omega
          have hn3b : ¬ (k + 1) * 5 + 3 = k * 5 := by omega
          have hn4a : ¬ (k + 1) * 5 = k * 5 + 4 := by omega
          have hn4b : ¬ (k + 1) * 5 + 4 = k * 5 := by omega
          have HE2 := Lib.hid HE.out.2
          have ea1 : ((k : Int)).toNat = k := by omega
          have pa1 : (0 : Int) ≤ (k : Int) := by omega
          have ba1 : (k : Int) < (d0.size : Int) := by omega
          have ra1 : IntKind.i64.wrap ((k : Int)) = (k : Int) := by rw [IntKind.wrap_i64]; omega
          have ea2 : ((k : Int) + 1).toNat = k + 1 := by omega
          have pa2 : (0 : Int) ≤ (k : Int) + 1 := by omega
          have ba2 : (k : Int) + 1 < (d0.size : Int) := by omega
          have ra2 : IntKind.i64.wrap ((k : Int) + 1) = (k : Int) + 1 := by rw [IntKind.wrap_i64]; omega
          clear hk1 hsd gx gy hz ez ez2 ecx ecy HE HS hS htl
          go_wp2_with fail
          go_big_region_o
          all_goals go_wp2
          go_roundg (k - i)
          case measure => have := HT.out; omega
          case rel => exact ⟨k, t, by first | rfl | go_num, by omega, by omega, Lib.hid (by have := HT.out; omega), by rw [HE2.out]; exact H2⟩
        · obtain rfl : k0 = i := by omega
          obtain rfl : t0 = p := by have := HT0.out; have := HPP.out; omega
          have hlz2 : ¬ (k0 : Int) < (k0 : Int) := by omega
          have HF := Lib.hid hS.out
          clear hS
          go_wp2_with fail
          (try simp only [Exit.inBlock, Exit.then])
          refine bodyPost_ret (results_none rfl _ _ _) rfl ?_
          exact ⟨rfl, by rw [HMG.out]; simpa using HF.out⟩
end
end Go.Proofs.YtgabidgpngiecaaGreat
