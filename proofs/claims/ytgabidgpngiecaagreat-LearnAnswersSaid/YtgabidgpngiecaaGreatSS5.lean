/- Contracts of stable, SortStableFunc (printed by stab.py). Conditions: each names its own. -/
import Derived.Test.YtgabidgpngiecaaGreatSS4
import Derived.Test.YtgabidgpngiecaaGreatSP1
import Derived.Test.YtgabidgpngiecaaGreatL4
namespace Go.Proofs.YtgabidgpngiecaaGreat
open Go.RowKit Go.Lib Go.Sort Go.Proofs Go.Proofs.YtgabidgpngiecaaGreatPlain
section
variable {α : Type} [Inhabited α] {enc : α → List Value} {w0 W : World} {blk : Nat} {d0 : Array α}
set_option maxHeartbeats 2000000 in
set_option maxRecDepth 1000000 in
theorem insSort_any (_hN : Nums enc) (Rw : RowK enc 5 w0 blk 0 d0) (cf : α → α → Int) (hO : SWO (ltOf cf)) (g : Nat) (cb : Array Value) (eg : ∀ args w, (callFunc g args).run Tryz.prog w = .ok (.enter g args) w) (hcmp : CmpLays Tryz.prog g cb enc 5 cf blk 0 d0.size w0) (hsz : d0.size < 4611686018427387904) (cap : Nat) (A M B : List α) (a b : Nat) (ha : a = A.length) (hb : b = A.length + M.length) (hs : d0.size = (A ++ (M ++ B)).length) (S : SWK enc 5 w0 blk 0 (A ++ (M ++ B)).toArray W) :
    Calls Tryz.prog 75 #[.slice (some ⟨blk, 0, none⟩) d0.size cap, .int .i64 a, .int .i64 b, .func (.func g) #[] cb] W fun e w' => e = .returned (.tuple #[]) ∧ SWK enc 5 w0 blk 0 (A ++ (stab (ltOf cf) M ++ B)).toArray w' := by
  have h := AnyQ.insertionSortCmpFunc_w (P := Tryz.prog) (ρ := sortRen) { sortLays with } 5 Tryz.isAgg96 Tryz.sizeOf96 enc cf g cb blk 0 cap a b d0 (A ++ (M ++ B)).toArray w0 W eg hcmp Rw (by rw [hs]; simp) S hO (by omega) (by simp; omega) (by rw [List.size_toArray, ← hs]; exact hsz)
  rw [List.size_toArray, ← hs, insertionSort_stab hO A M B ha hb] at h
  exact h
set_option maxHeartbeats 2000000 in
set_option maxRecDepth 1000000 in
theorem stable_any (hN : Nums enc) (Rw : RowK enc 5 w0 blk 0 d0) (cf : α → α → Int) (hO : SWO (ltOf cf)) (g : Nat) (cb : Array Value) (eg : ∀ args w, (callFunc g args).run Tryz.prog w = .ok (.enter g args) w) (hcmp : CmpLays Tryz.prog g cb enc 5 cf blk 0 d0.size w0) (hsz : d0.size < 4611686018427387904) (cap : Nat) (hsz2 : d0.size ≤ 1000000) (l : List α) (hs : d0.size = l.length) (S : SWK enc 5 w0 blk 0 l.toArray W) :
    Calls Tryz.prog 61 #[.slice (some ⟨blk, 0, none⟩) d0.size cap, .int .i64 (d0.size : Nat), .func (.func g) #[] cb] W fun e w' => e = .returned (.tuple #[]) ∧ SWK enc 5 w0 blk 0 (stab (ltOf cf) l).toArray w' := by
  have HS := Lib.hid (show SWK enc 5 w0 blk 0 ([] ++ l).toArray W from by rw [List.nil_append]; exact S)
  have HI := Lib.hid (fun (W : World) (A M B : List α) (a b : Nat) => insSort_any (W := W) hN Rw cf hO g cb eg hcmp hsz cap A M B a b)
  have HM := Lib.hid (fun (A X Y B : List α) (a m b : Nat) (W : World) => symMerge_any hN Rw cf hO g cb eg hcmp hsz cap (b - a + 1) A X Y B a m b W (by omega))
  have HL := Lib.hid hs
  have HO := Lib.hid hO
  obtain ⟨F, hF⟩ : ∃ F, F = l.length := ⟨_, rfl⟩
  have HF := Lib.hid hF
  clear S hs hcmp hO hF
  go_enter Tryz.func61, Tryz.ntmps61
  go_wp2_with fail
  go_loopg [7, 8] d0.size (fun kx s7 s8 wr => ∃ (a b : Nat) (P Q : List α), s7 = .int .i64 a ∧ s8 = .int .i64 b ∧ b ≤ a + 20 ∧ a + 20 ≤ b ∧ a ≤ d0.size ∧ d0.size - a ≤ kx ∧ Hid (P.length = a ∧ P.length + Q.length = d0.size ∧ P ++ chk (ltOf cf) 20 F Q = chk (ltOf cf) 20 F l) ∧ Hid (SWK enc 5 w0 blk 0 (P ++ Q).toArray wr))
  case atStart => exact ⟨0, 20, [], l, rfl, rfl, by omega, by omega, Nat.zero_le _, by omega, Lib.hid ⟨rfl, by simp [HL.out], rfl⟩, HS⟩
  case round =>
    clear HS
    obtain ⟨a, b, P, Q, rfl, rfl, hb1, hb2, han, hkx, HP, HS⟩ := hrel
    by_cases hlt : b ≤ d0.size
    · have hlz : (b : Int) ≤ (d0.size : Int) := by omega
      have HC := Lib.hid (HI.out wr P (Q.take 20) (Q.drop 20) a b HP.out.1.symm (by have := HP.out; simp; omega) (by have := HP.out; simp; omega) (by rw [List.take_append_drop]; exact HS.out))
      have HP2 := Lib.hid (show (P ++ stab (ltOf cf) (Q.take 20)).length = b ∧ (P ++ stab (ltOf cf) (Q.take 20)).length + (Q.drop 20).length = d0.size ∧ (P ++ stab (ltOf cf) (Q.take 20)) ++ chk (ltOf cf) 20 F (Q.drop 20) = chk (ltOf cf) 20 F l from by
        obtain ⟨p1, p2, p3⟩ := HP.out
        refine ⟨by simp [stab_length]; omega, by simp [stab_length]; omega, ?_⟩
        rw [← p3, chk_step (by omega) (by rw [HF.out, ← HL.out]; omega) (show 20 ≤ Q.length by omega), List.append_assoc])
      clear HP HS
      go_wp2_with (go_at_call 75; refine HC.out.mono ?_; rintro e w1 ⟨rfl, h1⟩; have H1 := Lib.hid h1; clear h1)
      go_roundg (d0.size - b)
      case measure => omega
      case rel => exact ⟨b, b + 20, _, _, rfl, by first | rfl | go_num, by omega, by omega, by omega, by omega, HP2, by simpa using H1⟩
    · have hlz : ¬ (b : Int) ≤ (d0.size : Int) := by omega
      have HC := Lib.hid (HI.out wr P Q [] a d0.size HP.out.1.symm (by have := HP.out; omega) (by have := HP.out; simp; omega) (by simpa using HS.out))
      have HP2 := Lib.hid (show P ++ (stab (ltOf cf) Q ++ []) = chk (ltOf cf) 20 F l from by
        obtain ⟨p1, p2, p3⟩ := HP.out
        rw [← p3, chk_end (by omega), List.append_nil])
      clear HP HS
      go_wp2_with (go_at_call 75; refine HC.out.mono ?_; rintro e w1 ⟨rfl, h1⟩; have H1 := Lib.hid (HP2.out ▸ h1); clear h1)
      clear HC HP2
      go_loopg [6] (d0.size) (fun ky s6 wq => ∃ bs : Nat, s6 = .int .i64 bs ∧ 1 ≤ bs ∧ bs ≤ 2000000 ∧ d0.size - bs ≤ ky ∧ Hid (SWK enc 5 w0 blk 0 (chk (ltOf cf) bs F l).toArray wq))
      case atStart => exact ⟨20, rfl, by omega, by omega, by omega, H1⟩
      case round =>
        clear H1
        obtain ⟨bs, rfl, hbs1, hbs2, hky, HS⟩ := hrel
        by_cases hlb : bs < d0.size
        · have hlbz : (bs : Int) < (d0.size : Int) := by omega
          go_wp2_with fail
          go_loopg [7, 8] d0.size (fun kz s7 s8 wp => ∃ (a b : Nat) (P Q : List α), s7 = .int .i64 a ∧ s8 = .int .i64 b ∧ b ≤ a + 2 * bs ∧ a + 2 * bs ≤ b ∧ a ≤ d0.size ∧ d0.size - a ≤ kz ∧ Hid (P.length = a ∧ P.length + Q.length = d0.size ∧ P ++ chk (ltOf cf) (2 * bs) F Q = chk (ltOf cf) (2 * bs) F l) ∧ Hid (SWK enc 5 w0 blk 0 (P ++ chk (ltOf cf) bs F Q).toArray wp))
          case atStart => exact ⟨0, 2 * bs, [], l, rfl, by first | rfl | go_num, by omega, by omega, Nat.zero_le _, by omega, Lib.hid ⟨rfl, by simp [HL.out], rfl⟩, HS⟩
          case round =>
            clear HS
            obtain ⟨a, b, P, Q, rfl, rfl, hb1, hb2, han, hkx, HP, HS⟩ := hrel
            by_cases hlt : b ≤ d0.size
            · have hlz : (b : Int) ≤ (d0.size : Int) := by omega
              have hQF : Q.length ≤ F := by have := HP.out; rw [HF.out, ← HL.out]; omega
              have hQl : 2 * bs ≤ Q.length := by have := HP.out; omega
              have e1 : chk (ltOf cf) bs F Q = stab (ltOf cf) (Q.take bs) ++ (stab (ltOf cf) ((Q.drop bs).take bs) ++ chk (ltOf cf) bs F (Q.drop (2 * bs))) := by
                rw [chk_step (by omega) hQF (by omega), chk_step (by omega) (by simp; omega) (by simp; omega), List.drop_drop, show bs + bs = 2 * bs by omega]
              have e2 : mrg (ltOf cf) (stab (ltOf cf) (Q.take bs)) (stab (ltOf cf) ((Q.drop bs).take bs)) = stab (ltOf cf) (Q.take (2 * bs)) := by
                rw [← stab_append HO.out]
                congr 1
                rw [show 2 * bs = bs + bs by omega, List.take_add]
              have hc := HM.out P (stab (ltOf cf) (Q.take bs)) (stab (ltOf cf) ((Q.drop bs).take bs)) (chk (ltOf cf) bs F (Q.drop (2 * bs))) a (a + bs) b wr HP.out.1.symm (by have := HP.out; simp [stab_length]; omega) (by have := HP.out; simp [stab_length]; omega) (by simp [stab_length]; omega) (by simp [stab_length]; omega) (by have := HP.out; simp [stab_length, chk_length]; omega) (stab_srt HO.out _) (stab_srt HO.out _) (by rw [← e1]; exact HS.out)
              rw [show ((a + bs : Nat) : Int) = (a : Int) + (bs : Int) by omega, e2] at hc
              have HC := Lib.hid hc
              have HP2 := Lib.hid (show (P ++ stab (ltOf cf) (Q.take (2 * bs))).length = b ∧ (P ++ stab (ltOf cf) (Q.take (2 * bs))).length + (Q.drop (2 * bs)).length = d0.size ∧ (P ++ stab (ltOf cf) (Q.take (2 * bs))) ++ chk (ltOf cf) (2 * bs) F (Q.drop (2 * bs)) = chk (ltOf cf) (2 * bs) F l from by
                obtain ⟨p1, p2, p3⟩ := HP.out
                refine ⟨by simp [stab_length]; omega, by simp [stab_length]; omega, ?_⟩
                rw [← p3, chk_step (by omega) hQF hQl, List.append_assoc])
              clear HP HS e1 e2 hc hQF hQl
              go_wp2_with (go_at_call 76; refine HC.out.mono ?_; rintro e w1 ⟨rfl, h1⟩; have H1 := Lib.hid h1; clear h1)
              go_roundg (d0.size - b)
              case measure => omega
              case rel => exact ⟨b, b + 2 * bs, _, _, rfl, by first | rfl | go_num, by omega, by omega, by omega, by omega, HP2, by simpa using H1⟩
            · have hlz : ¬ (b : Int) ≤ (d0.size : Int) := by omega
              by_cases hmn : a + bs < d0.size
              · have hmz : (a : Int) + (bs : Int) < (d0.size : Int) := by omega
                have e1 : chk (ltOf cf) bs F Q = stab (ltOf cf) (Q.take bs) ++ (stab (ltOf cf) (Q.drop bs) ++ []) := by
                  have := HP.out
                  rw [chk_step (by omega) (by rw [HF.out, ← HL.out]; omega) (by omega), chk_end (by simp; omega), List.append_nil]
                have hc := HM.out P (stab (ltOf cf) (Q.take bs)) (stab (ltOf cf) (Q.drop bs)) [] a (a + bs) d0.size wr HP.out.1.symm (by have := HP.out; simp [stab_length]; omega) (by have := HP.out; simp [stab_length]; omega) (by have := HP.out; simp [stab_length]; omega) (by have := HP.out; simp [stab_length]; omega) (by have := HP.out; simp [stab_length]; omega) (stab_srt HO.out _) (stab_srt HO.out _) (by rw [← e1]; exact HS.out)
                rw [show ((a + bs : Nat) : Int) = (a : Int) + (bs : Int) by omega, ← stab_append HO.out, List.take_append_drop] at hc
                have HC := Lib.hid hc
                have HP2 := Lib.hid (show P ++ (stab (ltOf cf) Q ++ []) = chk (ltOf cf) (2 * bs) F l from by
                  obtain ⟨p1, p2, p3⟩ := HP.out
                  rw [← p3, chk_end (by omega), List.append_nil])
                clear HP HS e1 hc
                go_wp2_with (go_at_call 76; refine HC.out.mono ?_; rintro e w1 ⟨rfl, h1⟩; have H1 := Lib.hid (HP2.out ▸ h1); clear h1)
                go_roundg (d0.size - 2 * bs)
                case measure => omega
                case rel => exact ⟨2 * bs, by first | rfl | go_num | (congr 1; omega), by omega, by omega, by omega, H1⟩
              · have hmz : ¬ (a : Int) + (bs : Int) < (d0.size : Int) := by omega
                have HS2 := Lib.hid (show SWK enc 5 w0 blk 0 (chk (ltOf cf) (2 * bs) F l).toArray wr from by
                  obtain ⟨p1, p2, p3⟩ := HP.out
                  have := HS.out
                  rw [chk_end (show Q.length ≤ bs by omega), ← chk_end (lt := ltOf cf) (k := 2 * bs) (f := F) (show Q.length ≤ 2 * bs by omega), p3] at this
                  exact this)
                clear HP HS
                go_wp2_with fail
                go_roundg (d0.size - 2 * bs)
                case measure => omega
                case rel => exact ⟨2 * bs, by first | rfl | go_num | (congr 1; omega), by omega, by omega, by omega, HS2⟩
        · have hlbz : ¬ (bs : Int) < (d0.size : Int) := by omega
          have HS2 := Lib.hid (show SWK enc 5 w0 blk 0 (stab (ltOf cf) l).toArray wr from by
            have := HS.out
            rwa [chk_end (show l.length ≤ bs by rw [← HL.out]; omega)] at this)
          clear HS
          go_wp2_with fail
          go_end0
          exact ⟨rfl, HS2.out⟩
set_option maxHeartbeats 2000000 in
set_option maxRecDepth 1000000 in
theorem sortStable_any (hN : Nums enc) (Rw : RowK enc 5 w0 blk 0 d0) (cf : α → α → Int) (hO : SWO (ltOf cf)) (g : Nat) (cb : Array Value) (eg : ∀ args w, (callFunc g args).run Tryz.prog w = .ok (.enter g args) w) (hcmp : CmpLays Tryz.prog g cb enc 5 cf blk 0 d0.size w0) (hsz : d0.size < 4611686018427387904) (cap : Nat) (hsz2 : d0.size ≤ 1000000) (l : List α) (hs : d0.size = l.length) (S : SWK enc 5 w0 blk 0 l.toArray W) :
    Calls Tryz.prog 42 #[.slice (some ⟨blk, 0, none⟩) d0.size cap, .func (.func g) #[] cb] W fun e w' => e = .returned (.tuple #[]) ∧ SWK enc 5 w0 blk 0 (stab (ltOf cf) l).toArray w' := by
  have HC := Lib.hid (stable_any hN Rw cf hO g cb eg hcmp hsz cap hsz2 l hs S)
  clear S hs hcmp hO
  go_enter Tryz.func42, Tryz.ntmps42
  go_wp2_with (go_at_call 61; refine HC.out.mono ?_; rintro e w1 ⟨rfl, h1⟩; have H1 := Lib.hid h1; clear h1)
  go_end0
  exact ⟨rfl, H1.out⟩
end
end Go.Proofs.YtgabidgpngiecaaGreat
