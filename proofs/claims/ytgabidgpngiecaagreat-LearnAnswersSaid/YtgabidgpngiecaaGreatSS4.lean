/- Contract of symMerge (printed by stab.py). Conditions: each names its own. -/
import Derived.Test.YtgabidgpngiecaaGreatSS1
import Derived.Test.YtgabidgpngiecaaGreatSS3
namespace Go.Proofs.YtgabidgpngiecaaGreat
open Go.RowKit Go.Lib Go.Sort Go.Proofs Go.Proofs.YtgabidgpngiecaaGreatPlain
section
variable {α : Type} [Inhabited α] {enc : α → List Value} {w0 W : World} {blk : Nat} {d0 : Array α}
set_option maxHeartbeats 2000000 in
set_option maxRecDepth 1000000 in
theorem symMerge_step (hN : Nums enc) (Rw : RowK enc 5 w0 blk 0 d0) (cf : α → α → Int) (hO : SWO (ltOf cf)) (g : Nat) (cb : Array Value) (eg : ∀ args w, (callFunc g args).run Tryz.prog w = .ok (.enter g args) w) (hcmp : CmpLays Tryz.prog g cb enc 5 cf blk 0 d0.size w0) (hsz : d0.size < 4611686018427387904) (cap : Nat) (A X Y B : List α) (a m b : Nat) (h1 : 1 < X.length) (h2 : 1 < Y.length) (ha : a = A.length) (hm : m = A.length + X.length) (hb : b = A.length + X.length + Y.length) (_hX : 0 < X.length) (_hY : 0 < Y.length) (hs : d0.size = (A ++ (X ++ (Y ++ B))).length) (hsX : Srt (ltOf cf) X) (hsY : Srt (ltOf cf) Y) (S : SWK enc 5 w0 blk 0 (A ++ (X ++ (Y ++ B))).toArray W)
    (ih : ∀ (A X Y B : List α) (a' m b' : Nat) (W : World), b' - a' < b - a → a' = A.length → m = A.length + X.length → b' = A.length + X.length + Y.length → 0 < X.length → 0 < Y.length → d0.size = (A ++ (X ++ (Y ++ B))).length → Srt (ltOf cf) X → Srt (ltOf cf) Y → SWK enc 5 w0 blk 0 (A ++ (X ++ (Y ++ B))).toArray W →
      Calls Tryz.prog 76 #[.slice (some ⟨blk, 0, none⟩) d0.size cap, .int .i64 a', .int .i64 m, .int .i64 b', .func (.func g) #[] cb] W fun e w' =>
      e = .returned (.tuple #[]) ∧ SWK enc 5 w0 blk 0 (A ++ (mrg (ltOf cf) X Y ++ B)).toArray w') :
    Calls Tryz.prog 76 #[.slice (some ⟨blk, 0, none⟩) d0.size cap, .int .i64 a, .int .i64 m, .int .i64 b, .func (.func g) #[] cb] W fun e w' =>
      e = .returned (.tuple #[]) ∧ SWK enc 5 w0 blk 0 (A ++ (mrg (ltOf cf) X Y ++ B)).toArray w' := by
  have mixed : Tryz.prog.follows .mixedOrders = true := by kernel_rfl
  have HC := Lib.hid hcmp
  obtain ⟨D, hD⟩ : ∃ D : Array α, D = (A ++ (X ++ (Y ++ B))).toArray := ⟨_, rfl⟩
  have hP : Parts D A X Y B a m b := ⟨hD, ha, hm, hb⟩
  have HD := Lib.hid (show D.size = d0.size from by rw [hD, hs]; simp)
  rw [← hD] at S
  have HS := Lib.hid S
  have HP0 := Lib.hid hP
  have HO := Lib.hid hO
  have HXY := Lib.hid (show _ ∧ _ from ⟨hsX, hsY⟩)
  have ham : a < m := by omega
  have hmb : m < b := by omega
  have hbs : b ≤ d0.size := by rw [hs]; simp only [List.length_append]; omega
  clear hcmp
  have hz1 : ((m : Int) - (a : Int) == 1) = false := by simp; omega
  have hz2 : ((b : Int) - (m : Int) == 1) = false := by simp; omega
  have HIH := Lib.hid ih
  clear S hD hP hs hsX hsY ih ha hm hb _hX _hY hO h1 h2
  go_enter Tryz.func76, Tryz.ntmps76
  go_upto_if 140 with fail
  go_cut [18, 19, 20, 21] (fun s18 s19 s20 s21 wc => ∃ mid n s0 r0 : Nat, s18 = .int .i64 mid ∧ s19 = .int .i64 n ∧ s20 = .int .i64 s0 ∧ s21 = .int .i64 r0 ∧ Hid (mid = (a + b) / 2 ∧ n = mid + m ∧ ((mid < m ∧ s0 + b = n ∧ r0 = mid) ∨ (m ≤ mid ∧ s0 = a ∧ r0 = m))) ∧ Hid (SWK enc 5 w0 blk 0 D wc))
  case first =>
    by_cases hmm : (a + b) / 2 < m
    · have hmz : ((a : Int) + (b : Int)) / 2 < (m : Int) := by omega
      go_wp2_with fail
      go_meet
      case rel => exact ⟨(a + b) / 2, (a + b) / 2 + m, (a + b) / 2 + m - b, (a + b) / 2, by rw [show (((a + b) / 2 : Nat) : Int) = ((a : Int) + (b : Int)) / 2 by omega], by rw [show (((a + b) / 2 + m : Nat) : Int) = ((a : Int) + (b : Int)) / 2 + (m : Int) by omega], by rw [show (((a + b) / 2 + m - b : Nat) : Int) = ((a : Int) + (b : Int)) / 2 + (m : Int) - (b : Int) by omega], by rw [show (((a + b) / 2 : Nat) : Int) = ((a : Int) + (b : Int)) / 2 by omega], Lib.hid ⟨rfl, rfl, .inl ⟨hmm, by omega, rfl⟩⟩, HS⟩
    · have hmz : ¬ ((a : Int) + (b : Int)) / 2 < (m : Int) := by omega
      go_wp2_with fail
      go_meet
      case rel => exact ⟨(a + b) / 2, (a + b) / 2 + m, a, m, by rw [show (((a + b) / 2 : Nat) : Int) = ((a : Int) + (b : Int)) / 2 by omega], by rw [show (((a + b) / 2 + m : Nat) : Int) = ((a : Int) + (b : Int)) / 2 + (m : Int) by omega], rfl, rfl, Lib.hid ⟨rfl, rfl, .inr ⟨by omega, rfl, rfl⟩⟩, HS⟩
  case rest =>
    clear HS
    obtain ⟨mid, n, s0, r0, rfl, rfl, rfl, rfl, HQ, HS⟩ := hcut
    have hsr : s0 ≤ r0 := by have := HQ.out; omega
    have has : a ≤ s0 := by have := HQ.out; omega
    have hrm : r0 ≤ m := by have := HQ.out; omega
    have hnb : n ≤ b + s0 := by have := HQ.out; omega
    have hnm : m + r0 ≤ n := by have := HQ.out; omega
    have hn1 : 1 ≤ n := by omega
    have HM : Hid ((∀ t t', s0 ≤ t → t ≤ t' → t' < r0 → ltOf cf D[n - 1 - t']! D[t']! = false → ltOf cf D[n - 1 - t]! D[t]! = false) ∧ (∀ t t', s0 ≤ t → t ≤ t' → t' < r0 → ltOf cf D[n - 1 - t]! D[t]! = true → ltOf cf D[n - 1 - t']! D[t']! = true)) := Lib.hid ⟨HP0.out.mono3 HO.out HXY.out.1 HXY.out.2 has hrm hnb hnm, mono_not (p := fun t => ltOf cf D[n - 1 - t]! D[t]!) (r := false) (HP0.out.mono3 HO.out HXY.out.1 HXY.out.2 has hrm hnb hnm)⟩
    go_wp2_with fail
    go_loopg [20, 21] (r0 - s0) (fun kx s20 s21 wr => ∃ i j : Nat, s20 = .int .i64 i ∧ s21 = .int .i64 j ∧ s0 ≤ i ∧ i ≤ j ∧ j ≤ r0 ∧ j - i ≤ kx ∧ Hid (SWK enc 5 w0 blk 0 D wr) ∧ Hid ((∀ t, s0 ≤ t → t < i → ltOf cf D[n - 1 - t]! D[t]! = false) ∧ (∀ t, j ≤ t → t < r0 → ltOf cf D[n - 1 - t]! D[t]! = true)))
    case atStart => exact ⟨s0, r0, rfl, rfl, Nat.le_refl _, by omega, Nat.le_refl _, Nat.le_refl _, HS, Lib.hid ⟨fun t h1 h2 => by omega, fun t h1 h2 => by omega⟩⟩
    case round =>
      clear HS
      obtain ⟨i, j, rfl, rfl, hlo, hij, hhi, hkx, hS, hI⟩ := hrel
      by_cases hlt : i < j
      · have hlz : (i : Int) < (j : Int) := by omega
        obtain ⟨q, hq⟩ : ∃ q, q = n - 1 - (i + j) / 2 := ⟨_, rfl⟩
        have ea1 : ((n : Int) - 1 - ((i : Int) + (j : Int)) / 2).toNat = q := by omega
        have pa1 : (0 : Int) ≤ (n : Int) - 1 - ((i : Int) + (j : Int)) / 2 := by omega
        have ba1 : (n : Int) - 1 - ((i : Int) + (j : Int)) / 2 < (d0.size : Int) := by omega
        have ra1 : IntKind.i64.wrap ((n : Int) - 1 - ((i : Int) + (j : Int)) / 2) = (n : Int) - 1 - ((i : Int) + (j : Int)) / 2 := by rw [IntKind.wrap_i64]; omega
        have ea2 : (((i : Int) + (j : Int)) / 2).toNat = (i + j) / 2 := by omega
        have pa2 : (0 : Int) ≤ ((i : Int) + (j : Int)) / 2 := by omega
        have ba2 : ((i : Int) + (j : Int)) / 2 < (d0.size : Int) := by omega
        have ra2 : IntKind.i64.wrap (((i : Int) + (j : Int)) / 2) = ((i : Int) + (j : Int)) / 2 := by rw [IntKind.wrap_i64]; omega
        have hix := fun W => idx_any blk d0.size cap q ((n : Int) - 1 - ((i : Int) + (j : Int)) / 2) pa1 ba1 ea1 W
        obtain ⟨xl, hxl⟩ : ∃ x, D[q]! = x := ⟨_, rfl⟩
        obtain ⟨yr, hyr⟩ : ∃ x, D[(i + j) / 2]! = x := ⟨_, rfl⟩
        obtain ⟨x0, x1, x2, x3, x4, ecx⟩ := hN xl
        have haex := fun n os => swk_get (hS.out.grown n os) Rw HD.out (i := q) (by rw [HD.out]; omega) ((congrArg enc hxl).trans ecx)
        have lx0 : ∀ n os, (grow (wr.drewN n) os).cell? ⟨blk, q * 5, none⟩ = some (.int .i64 x0) := fun n os => (haex n os).1.1
        have lx1 : ∀ n os, (grow (wr.drewN n) os).cell? ⟨blk, q * 5 + 1, none⟩ = some (.int .i64 x1) := fun n os => (haex n os).1.2.1
        have lx2 : ∀ n os, (grow (wr.drewN n) os).cell? ⟨blk, q * 5 + 2, none⟩ = some (.int .i64 x2) := fun n os => (haex n os).1.2.2.1
        have lx3 : ∀ n os, (grow (wr.drewN n) os).cell? ⟨blk, q * 5 + 3, none⟩ = some (.int .i64 x3) := fun n os => (haex n os).1.2.2.2.1
        have lx4 : ∀ n os, (grow (wr.drewN n) os).cell? ⟨blk, q * 5 + 4, none⟩ = some (.int .i64 x4) := fun n os => (haex n os).1.2.2.2.2
        obtain ⟨y0, y1, y2, y3, y4, ecy⟩ := hN yr
        have haey := fun n os => swk_get (hS.out.grown n os) Rw HD.out (i := (i + j) / 2) (by rw [HD.out]; omega) ((congrArg enc hyr).trans ecy)
        have ly0 : ∀ n os, (grow (wr.drewN n) os).cell? ⟨blk, (i + j) / 2 * 5, none⟩ = some (.int .i64 y0) := fun n os => (haey n os).1.1
        have ly1 : ∀ n os, (grow (wr.drewN n) os).cell? ⟨blk, (i + j) / 2 * 5 + 1, none⟩ = some (.int .i64 y1) := fun n os => (haey n os).1.2.1
        have ly2 : ∀ n os, (grow (wr.drewN n) os).cell? ⟨blk, (i + j) / 2 * 5 + 2, none⟩ = some (.int .i64 y2) := fun n os => (haey n os).1.2.2.1
        have ly3 : ∀ n os, (grow (wr.drewN n) os).cell? ⟨blk, (i + j) / 2 * 5 + 3, none⟩ = some (.int .i64 y3) := fun n os => (haey n os).1.2.2.2.1
        have ly4 : ∀ n os, (grow (wr.drewN n) os).cell? ⟨blk, (i + j) / 2 * 5 + 4, none⟩ = some (.int .i64 y4) := fun n os => (haey n os).1.2.2.2.2
        have hc := hS.out.cmp HC.out HD.out xl yr
        simp only [ecx, ecy] at hc
        have HP := Lib.hid (show ltOf cf D[n - 1 - ((i + j) / 2)]! D[((i + j) / 2)]! = ltOf cf xl yr from by rw [← hq, hxl, hyr])
        clear haex haey ecx ecy hxl hyr hq
        cases hlv : ltOf cf xl yr with
        | true =>
          have hv : cf xl yr < 0 := of_decide_eq_true hlv
          have hd : decide (cf xl yr < 0) = true := decide_eq_true hv
          have HV := Lib.hid (HP.out.trans hlv)
          clear hlv HP
          go_wp2_with fail
          go_quiet_grown (first | (go_at_fn g; refine Calls.grown_of (hc _ _)))
          have S2 := Lib.hid (hS.out.grown nq osq)
          clear lx0 lx1 lx2 lx3 lx4 ly0 ly1 ly2 ly3 ly4 hc hS
          generalize grow (wr.drewN nq) osq = w2 at S2 ⊢
          clear nq osq
          go_wp2
          go_roundg ((i + j) / 2 - i)
          case measure => omega
          case rel => exact ⟨i, (i + j) / 2, by first | rfl | go_num, by rw [show ((((i + j) / 2 : Nat)) : Int) = ((i : Int) + (j : Int)) / 2 by omega], by omega, by omega, by omega, by omega, S2, Lib.hid ⟨hI.out.1, fun t h1 h2 => HM.out.2 ((i + j) / 2) t (by omega) h1 h2 HV.out⟩⟩
        | false =>
          have hv : ¬ cf xl yr < 0 := of_decide_eq_false hlv
          have hd : decide (cf xl yr < 0) = false := decide_eq_false hv
          have HV := Lib.hid (HP.out.trans hlv)
          clear hlv HP
          go_wp2_with fail
          go_quiet_grown (first | (go_at_fn g; refine Calls.grown_of (hc _ _)))
          have S2 := Lib.hid (hS.out.grown nq osq)
          clear lx0 lx1 lx2 lx3 lx4 ly0 ly1 ly2 ly3 ly4 hc hS
          generalize grow (wr.drewN nq) osq = w2 at S2 ⊢
          clear nq osq
          go_wp2
          go_roundg (j - ((i + j) / 2 + 1))
          case measure => omega
          case rel => exact ⟨(i + j) / 2 + 1, j, by rw [show ((((i + j) / 2 + 1 : Nat)) : Int) = ((i : Int) + (j : Int)) / 2 + 1 by omega], by first | rfl | go_num, by omega, by omega, by omega, by omega, S2, Lib.hid ⟨fun t h1 h2 => HM.out.1 t ((i + j) / 2) h1 (by omega) (by omega) HV.out, hI.out.2⟩⟩
      · obtain rfl : i = j := by omega
        have hlz : ¬ (i : Int) < (i : Int) := by omega
        have him : i ≤ mid := by have := HQ.out; omega
        have hjm : mid - i ≤ b - m := by have := HQ.out; omega
        have hmid1 : a < mid := by have := HQ.out; omega
        have hmid2 : mid < b := by have := HQ.out; omega
        have hnn := HQ.out.2.1
        have HMG : Hid (∃ X1 X2 Y1 Y2 : List α, X = X1 ++ X2 ∧ Y = Y1 ++ Y2 ∧ X1.length = i - a ∧ Y1.length = mid - i ∧ mrg (ltOf cf) X Y = mrg (ltOf cf) X1 Y1 ++ mrg (ltOf cf) X2 Y2 ∧ Srt (ltOf cf) X1 ∧ Srt (ltOf cf) X2 ∧ Srt (ltOf cf) Y1 ∧ Srt (ltOf cf) Y2) := Lib.hid (by
          have la := HP0.out.la
          have lm := HP0.out.lm
          have lb := HP0.out.lb
          refine ⟨X.take (i - a), X.drop (i - a), Y.take (mid - i), Y.drop (mid - i), (List.take_append_drop _ _).symm, (List.take_append_drop _ _).symm, by simp; omega, by simp; omega, ?_, HXY.out.1.sublist (List.take_sublist _ _), HXY.out.1.sublist (List.drop_sublist _ _), HXY.out.2.sublist (List.take_sublist _ _), HXY.out.2.sublist (List.drop_sublist _ _)⟩
          refine mrg_mid HO.out HXY.out.1 HXY.out.2 (by omega) (by omega) (fun h1 h2 p q => ?_) (fun h1 h2 p q => ?_)
          · have := hI.out.1 (i - 1) (by have := HQ.out; omega) (by omega)
            rw [show n - 1 - (i - 1) = m + (mid - i) by omega, HP0.out.gy q, show i - 1 = a + (i - a - 1) by omega, HP0.out.gx p] at this
            exact this
          · have := hI.out.2 i (Nat.le_refl _) (by have := HQ.out; omega)
            have e1 : D[i]! = X[i - a] := by rw [← HP0.out.gx p, show a + (i - a) = i by omega]
            rw [show n - 1 - i = m + (mid - i - 1) by omega, HP0.out.gy q, e1] at this
            exact this)
        obtain ⟨X1, X2, Y1, Y2, eX, eY, lX1, lY1, eM, sX1, sX2, sY1, sY2⟩ := HMG.out
        have lX2 : X2.length = m - i := by have := HP0.out.la; have := HP0.out.lm; rw [eX] at this; simp at this; omega
        have lY2 : Y2.length = b - (n - i) := by have h1 := HP0.out.lm; have h2 := HP0.out.lb; rw [eY] at h2; simp at h2; omega
        have HS := Lib.hid (show SWK enc 5 w0 blk 0 (A ++ (X1 ++ (X2 ++ (Y1 ++ (Y2 ++ B))))).toArray wr from by have := hS.out; rw [HP0.out.eq, eX, eY] at this; simpa using this)
        have HSZ := Lib.hid (show d0.size = (A ++ (X1 ++ (X2 ++ (Y1 ++ (Y2 ++ B))))).length from by rw [← HD.out, HP0.out.eq, eX, eY]; simp)
        have HEM := Lib.hid (show A ++ (mrg (ltOf cf) X Y ++ B) = A ++ (mrg (ltOf cf) X1 Y1 ++ (mrg (ltOf cf) X2 Y2 ++ B)) from by rw [eM]; simp)
        have HLN := Lib.hid (show a = A.length ∧ X1.length = i - a ∧ X2.length = m - i ∧ Y1.length = mid - i ∧ Y2.length = b - (n - i) ∧ n = mid + m from ⟨HP0.out.la, lX1, lX2, lY1, lY2, hnn⟩)
        have HSR := Lib.hid (show _ ∧ _ ∧ _ ∧ _ from ⟨sX1, sX2, sY1, sY2⟩)
        clear hI hS HM HMG eX eY lX1 lY1 eM sX1 sX2 sY1 sY2 lX2 lY2 HXY HD HP0 HC HO hnn HQ
        go_upto_region 39 with fail
        go_cut [185] from 178 (fun s185 wc => ∃ bb : Bool, s185 = .bool bb ∧ Hid (bb = (decide (i < m) && decide (m < n - i))) ∧ Hid (SWK enc 5 w0 blk 0 (A ++ (X1 ++ (X2 ++ (Y1 ++ (Y2 ++ B))))).toArray wc))
        case first =>
          by_cases q1 : i < m
          · have q1z : (i : Int) < (m : Int) := by omega
            by_cases q2 : m < n - i
            · have q2z : (m : Int) < (n : Int) - (i : Int) := by omega
              go_wp2_with fail
              go_meet
              case rel => exact ⟨true, rfl, Lib.hid (by simp [q1, q2]), HS⟩
            · have q2z : ¬ (m : Int) < (n : Int) - (i : Int) := by omega
              go_wp2_with fail
              go_meet
              case rel => exact ⟨false, rfl, Lib.hid (by simp [q2]), HS⟩
          · have q1z : ¬ (i : Int) < (m : Int) := by omega
            go_wp2_with fail
            go_meet
            case rel => exact ⟨false, rfl, Lib.hid (by simp [q1]), HS⟩
        case rest =>
          clear HS
          obtain ⟨bb, rfl, HB, HS⟩ := hcut
          go_upto_if 185 with fail
          go_cut [] from 186 (fun wd => Hid (SWK enc 5 w0 blk 0 (A ++ (X1 ++ (Y1 ++ (X2 ++ (Y2 ++ B))))).toArray wd))
          case first =>
            cases bb with
            | true =>
              have hq : i < m ∧ m < n - i := by have := HB.out; simp at this; exact this
              have hc := rotate_any hN Rw (A ++ X1) X2 Y1 (Y2 ++ B) g cb cap i m (n - i) (by have := HLN.out; simp; omega) (by have := HLN.out; simp; omega) (by have := HLN.out; simp; omega) (by have := HLN.out; omega) (by have := HLN.out; omega) (by rw [HSZ.out]; simp) hsz (W := wc) (by simpa using HS.out)
              rw [show ((n - i : Nat) : Int) = (n : Int) - (i : Int) by omega] at hc
              have HCl := Lib.hid hc
              clear hc
              go_wp2_with (go_at_call 96; refine HCl.out.mono ?_; rintro e w1 ⟨rfl, h1⟩; have H1 := Lib.hid h1; clear h1)
              go_meet
              case rel => exact Lib.hid (by simpa using H1.out)
            | false =>
              have hq : X2 = [] ∨ Y1 = [] := by
                have := HB.out
                have hl := HLN.out
                simp at this
                rcases Nat.lt_or_ge i m with h | h
                · exact .inr (List.eq_nil_of_length_eq_zero (by have := this h; omega))
                · exact .inl (List.eq_nil_of_length_eq_zero (by omega))
              go_wp2_with fail
              go_meet
              case rel =>
                rcases hq with rfl | rfl
                · exact Lib.hid (by simpa using HS.out)
                · exact Lib.hid (by simpa using HS.out)
          case rest =>
            clear HS HB
            have HS := hcut
            clear hcut
            go_upto_region 41 with fail
            go_cut [199] from 192 (fun s199 we => ∃ bb : Bool, s199 = .bool bb ∧ Hid (bb = (decide (a < i) && decide (i < mid))) ∧ Hid (SWK enc 5 w0 blk 0 (A ++ (X1 ++ (Y1 ++ (X2 ++ (Y2 ++ B))))).toArray we))
            case first =>
              by_cases q1 : a < i
              · have q1z : (a : Int) < (i : Int) := by omega
                by_cases q2 : i < mid
                · have q2z : (i : Int) < (mid : Int) := by omega
                  go_wp2_with fail
                  go_meet
                  case rel => exact ⟨true, rfl, Lib.hid (by simp [q1, q2]), HS⟩
                · have q2z : ¬ (i : Int) < (mid : Int) := by omega
                  go_wp2_with fail
                  go_meet
                  case rel => exact ⟨false, rfl, Lib.hid (by simp [q2]), HS⟩
              · have q1z : ¬ (a : Int) < (i : Int) := by omega
                go_wp2_with fail
                go_meet
                case rel => exact ⟨false, rfl, Lib.hid (by simp [q1]), HS⟩
            case rest =>
              clear HS
              obtain ⟨bc, rfl, HB, HS⟩ := hcut
              go_upto_if 199 with fail
              go_cut [] from 200 (fun wf => Hid (SWK enc 5 w0 blk 0 (A ++ (mrg (ltOf cf) X1 Y1 ++ (X2 ++ (Y2 ++ B)))).toArray wf))
              case first =>
                cases bc with
                | true =>
                  have hq : a < i ∧ i < mid := by have := HB.out; simp at this; exact this
                  have HCl := Lib.hid (HIH.out A X1 Y1 (X2 ++ (Y2 ++ B)) a i mid _ (by omega) HLN.out.1 (by have := HLN.out; omega) (by have := HLN.out; omega) (by have := HLN.out; omega) (by have := HLN.out; omega) (by rw [HSZ.out]; simp; omega) HSR.out.1 HSR.out.2.2.1 HS.out)
                  go_wp2_with (go_at_call 76; refine HCl.out.mono ?_; rintro e w1 ⟨rfl, h1⟩; have H1 := Lib.hid h1; clear h1)
                  go_meet
                  case rel => exact H1
                | false =>
                  have hq : X1 = [] ∨ Y1 = [] := by
                    have := HB.out
                    have hl := HLN.out
                    simp at this
                    rcases Nat.lt_or_ge a i with h | h
                    · exact .inr (List.eq_nil_of_length_eq_zero (by have := this h; omega))
                    · exact .inl (List.eq_nil_of_length_eq_zero (by omega))
                  go_wp2_with fail
                  go_meet
                  case rel =>
                    rcases hq with rfl | rfl
                    · exact Lib.hid (by rw [mrg_nil]; simpa using HS.out)
                    · exact Lib.hid (by rw [mrg_nil']; simpa using HS.out)
              case rest =>
                clear HS HB
                have HS := hcut
                clear hcut
                go_upto_region 43 with fail
                go_cut [213] from 206 (fun s213 wg => ∃ bb : Bool, s213 = .bool bb ∧ Hid (bb = (decide (mid < n - i) && decide (n - i < b))) ∧ Hid (SWK enc 5 w0 blk 0 (A ++ (mrg (ltOf cf) X1 Y1 ++ (X2 ++ (Y2 ++ B)))).toArray wg))
                case first =>
                  by_cases q1 : mid < n - i
                  · have q1z : (mid : Int) < (n : Int) - (i : Int) := by omega
                    by_cases q2 : n - i < b
                    · have q2z : (n : Int) - (i : Int) < (b : Int) := by omega
                      go_wp2_with fail
                      go_meet
                      case rel => exact ⟨true, rfl, Lib.hid (by simp [q1, q2]), HS⟩
                    · have q2z : ¬ (n : Int) - (i : Int) < (b : Int) := by omega
                      go_wp2_with fail
                      go_meet
                      case rel => exact ⟨false, rfl, Lib.hid (by simp [q2]), HS⟩
                  · have q1z : ¬ (mid : Int) < (n : Int) - (i : Int) := by omega
                    go_wp2_with fail
                    go_meet
                    case rel => exact ⟨false, rfl, Lib.hid (by simp [q1]), HS⟩
                case rest =>
                  clear HS
                  obtain ⟨bd, rfl, HB, HS⟩ := hcut
                  cases bd with
                  | true =>
                    have hq : mid < n - i ∧ n - i < b := by have := HB.out; simp at this; exact this
                    have hc := HIH.out (A ++ mrg (ltOf cf) X1 Y1) X2 Y2 B mid (n - i) b _ (by omega) (by have := HLN.out; simp [mrg_length]; omega) (by have := HLN.out; simp [mrg_length]; omega) (by have := HLN.out; simp [mrg_length]; omega) (by have := HLN.out; omega) (by have := HLN.out; omega) (by rw [HSZ.out]; simp [mrg_length]; omega) HSR.out.2.1 HSR.out.2.2.2 (by simpa using HS.out)
                    rw [show ((n - i : Nat) : Int) = (n : Int) - (i : Int) by omega] at hc
                    have HCl := Lib.hid hc
                    clear hc
                    go_wp2_with (go_at_call 76; refine HCl.out.mono ?_; rintro e w1 ⟨rfl, h1⟩; have H1 := Lib.hid h1; clear h1)
                    go_end0
                    exact ⟨rfl, by rw [HEM.out]; simpa using H1.out⟩
                  | false =>
                    have hq : X2 = [] ∨ Y2 = [] := by
                      have := HB.out
                      have hl := HLN.out
                      simp at this
                      rcases Nat.lt_or_ge mid (n - i) with h | h
                      · exact .inr (List.eq_nil_of_length_eq_zero (by have := this h; omega))
                      · exact .inl (List.eq_nil_of_length_eq_zero (by omega))
                    go_wp2_with fail
                    go_end0
                    refine ⟨rfl, ?_⟩
                    rcases hq with rfl | rfl
                    · rw [HEM.out, mrg_nil]; simpa using HS.out
                    · rw [HEM.out, mrg_nil']; simpa using HS.out
set_option maxHeartbeats 2000000 in
set_option maxRecDepth 1000000 in
theorem symMerge_any (hN : Nums enc) (Rw : RowK enc 5 w0 blk 0 d0) (cf : α → α → Int) (hO : SWO (ltOf cf)) (g : Nat) (cb : Array Value) (eg : ∀ args w, (callFunc g args).run Tryz.prog w = .ok (.enter g args) w) (hcmp : CmpLays Tryz.prog g cb enc 5 cf blk 0 d0.size w0) (hsz : d0.size < 4611686018427387904) (cap : Nat) :
    ∀ (N : Nat) (A X Y B : List α) (a m b : Nat) (W : World), b - a < N → a = A.length → m = A.length + X.length → b = A.length + X.length + Y.length → 0 < X.length → 0 < Y.length → d0.size = (A ++ (X ++ (Y ++ B))).length → Srt (ltOf cf) X → Srt (ltOf cf) Y → SWK enc 5 w0 blk 0 (A ++ (X ++ (Y ++ B))).toArray W →
    Calls Tryz.prog 76 #[.slice (some ⟨blk, 0, none⟩) d0.size cap, .int .i64 a, .int .i64 m, .int .i64 b, .func (.func g) #[] cb] W fun e w' =>
      e = .returned (.tuple #[]) ∧ SWK enc 5 w0 blk 0 (A ++ (mrg (ltOf cf) X Y ++ B)).toArray w' := by
  intro N
  induction N with
  | zero => intro _ _ _ _ _ _ _ _ h; omega
  | succ N ih =>
    intro A X Y B a m b W hNb ha hm hb hX hY hs hsX hsY S
    by_cases h1 : X.length = 1
    · obtain ⟨x, rfl⟩ : ∃ x, X = [x] := List.length_eq_one_iff.1 h1
      exact symMerge_first hN Rw cf hO g cb eg hcmp hsz cap A x Y B a m b ha hm hb hX hY hs hsX hsY S
    · by_cases h2 : Y.length = 1
      · obtain ⟨y, rfl⟩ : ∃ y, Y = [y] := List.length_eq_one_iff.1 h2
        exact symMerge_last hN Rw cf hO g cb eg hcmp hsz cap A X y B a m b (by omega) ha hm hb hX hY hs hsX hsY S
      · exact symMerge_step hN Rw cf hO g cb eg hcmp hsz cap A X Y B a m b (by omega) (by omega) ha hm hb hX hY hs hsX hsY S (fun A X Y B a' m b' W hlt => ih A X Y B a' m b' W (by omega))
end
end Go.Proofs.YtgabidgpngiecaaGreat
