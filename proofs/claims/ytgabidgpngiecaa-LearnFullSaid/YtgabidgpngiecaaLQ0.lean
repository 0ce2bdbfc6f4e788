/- LearnFull's walk. Conditions: it names its own. -/
import Derived.Test.YtgabidgpngiecaaLC0
import Derived.Test.YtgabidgpngiecaaLU0
import Derived.Test.YtgabidgpngiecaaLI0
namespace Go.Proofs.Ytgabidgpngiecaa
open Go.RowKit Go.Proofs.YtgabidgpngiecaaKit Go.Proofs.YtgabidgpngiecaaPlain

/-- LearnFull's rows and its model. -/
structure FSt (w W : World) (r o : Row) (l : List Row) : Prop where
  b1 : Blk W w.heap.size 33 #[.int .i64 r.a, .int .i64 r.b, .int .i64 r.c, .int .i64 r.l]
  b2 : Blk W (w.heap.size + 1) 33 #[.int .i64 o.a, .int .i64 o.b, .int .i64 o.c, .int .i64 o.l]
  md : Mdl w.heap.size W (w.heap.size + 1 + 1 + 1) (w.heap.size + 1 + 1) l
  kp : Keep No w W
section
variable {w W W' : World} {r o q : Row} {l l' : List Row}
theorem FSt.new_ (h : FSt w W r o l) (hk : Keep No W W') : FSt w W' r o l := ⟨h.b1.keep hk (fun x => x), h.b2.keep hk (fun x => x), h.md.new_ hk, h.kp.trans hk (fun _ x => x.elim)⟩
theorem FSt.step (h : FSt w W r o l) (hm : Mdl w.heap.size W' (w.heap.size + 1 + 1 + 1) (w.heap.size + 1 + 1) l') (hk : Keep (fun x => x = w.heap.size + 1 + 1 + 1 ∨ x = w.heap.size + 1 + 1) W W') : FSt w W' r o l' :=
  ⟨h.b1.keep hk (by omega), h.b2.keep hk (by omega), hm, h.kp.trans hk (fun x e => .inr (by omega))⟩
theorem FSt.yes (h : FSt w W r o l) (hq : okRow q) (hl : l.length < 500) : Calls Try.prog 16 #[.pointer (some ⟨w.heap.size + 1 + 1 + 1, 0, none⟩), .agg #[.int .i64 q.a, .int .i64 q.b, .int .i64 q.c, .int .i64 q.l]] W fun e w' => e = .returned (.int .i64 0) ∧ FSt w w' r o (q :: l) :=
  (learn_yes q h.md hq hl).mono fun _ _ ⟨e, h1, h2⟩ => ⟨e, h.step h1 h2⟩
theorem FSt.bad (h : FSt w W r o l) (hq : ¬ okRow q) : Calls Try.prog 16 #[.pointer (some ⟨w.heap.size + 1 + 1 + 1, 0, none⟩), .agg #[.int .i64 q.a, .int .i64 q.b, .int .i64 q.c, .int .i64 q.l]] W fun e w' => e = .returned (.int .i64 1) ∧ FSt w w' r o l :=
  (learn_bad q h.md hq).mono fun _ _ ⟨e, h1⟩ => ⟨e, h.new_ h1⟩
theorem FSt.full (h : FSt w W r o l) (hq : okRow q) (hl : 500 ≤ l.length) : Calls Try.prog 16 #[.pointer (some ⟨w.heap.size + 1 + 1 + 1, 0, none⟩), .agg #[.int .i64 q.a, .int .i64 q.b, .int .i64 q.c, .int .i64 q.l]] W fun e w' => e = .returned (.int .i64 5) ∧ FSt w w' r o l ∧ Keep No W w' :=
  (learn_full q h.md hq hl).mono fun _ _ ⟨e, h1⟩ => ⟨e, h.new_ h1, h1⟩
theorem FSt.gone (h : FSt w W r o l) (hq : q ∈ l) : Calls Try.prog 19 #[.pointer (some ⟨w.heap.size + 1 + 1 + 1, 0, none⟩), .agg #[.int .i64 q.a, .int .i64 q.b, .int .i64 q.c, .int .i64 q.l]] W fun e w' => e = .returned (.int .i64 0) ∧ FSt w w' r o (l.erase q) :=
  (unlearn_yes q h.md hq).mono fun _ _ ⟨e, h1, h2⟩ => ⟨e, h.step h1 h2⟩
theorem FSt.image (h : FSt w W r o l) : Calls Try.prog 17 #[.pointer (some ⟨w.heap.size + 1 + 1 + 1, 0, none⟩)] W fun e w' => ∃ A n c L, e = .returned (.slice A n c) ∧ Canon L ∧ (expand L).Perm l ∧ Bytes 0 w' A n (imgL L) ∧ FSt w w' r o l ∧ Keep No W w' :=
  (image_any h.md).mono fun _ _ ⟨v, L, e, h1, h2, h3, h4⟩ => by
    obtain ⟨A, c, rfl, _⟩ := h3.shape
    exact ⟨A, _, c, L, e, h1, h2, h3.bytes, h.new_ h4, h4⟩
theorem FSt.start (w : World) (r o : Row) : FSt w ((((w.alloc (.cells #[.int .i64 r.a, .int .i64 r.b, .int .i64 r.c, .int .i64 r.l] 33)).alloc (.cells #[.int .i64 o.a, .int .i64 o.b, .int .i64 o.c, .int .i64 o.l] 33)).alloc (.map #[] 0)).alloc (.cells #[.bool true, .map (some (w.heap.size + 1 + 1)), .int .i64 0] 83)) r o [] := by
  have h1 := Blk.new w 33 #[.int .i64 r.a, .int .i64 r.b, .int .i64 r.c, .int .i64 r.l]
  have h2 := Blk.new (w.alloc (.cells #[.int .i64 r.a, .int .i64 r.b, .int .i64 r.c, .int .i64 r.l] 33)) 33 #[.int .i64 o.a, .int .i64 o.b, .int .i64 o.c, .int .i64 o.l]
  have hz1 : (w.alloc (.cells #[.int .i64 r.a, .int .i64 r.b, .int .i64 r.c, .int .i64 r.l] 33)).heap.size = w.heap.size + 1 := by simp
  have hz2 : ((w.alloc (.cells #[.int .i64 r.a, .int .i64 r.b, .int .i64 r.c, .int .i64 r.l] 33)).alloc (.cells #[.int .i64 o.a, .int .i64 o.b, .int .i64 o.c, .int .i64 o.l] 33)).heap.size = w.heap.size + 1 + 1 := by simp
  rw [hz1] at h2
  have h3 := Mdl.made (base := w.heap.size) (w := ((w.alloc (.cells #[.int .i64 r.a, .int .i64 r.b, .int .i64 r.c, .int .i64 r.l] 33)).alloc (.cells #[.int .i64 o.a, .int .i64 o.b, .int .i64 o.c, .int .i64 o.l] 33))) (by rw [hz2]; omega)
  rw [hz2] at h3
  exact ⟨(h1.alloc _).keep ((((Keep.refl No _).alloc _).alloc _)) (fun x => x), h2.keep (((Keep.refl No _).alloc _).alloc _) (fun x => x), h3, ((((Keep.refl No w).alloc _).alloc _).alloc _).alloc _⟩
end
theorem erase_rep (n : Nat) (r : Row) (T : List Row) : (List.replicate (n + 1) r ++ T).erase r = List.replicate n r ++ T := by simp [List.replicate_succ]

set_option maxHeartbeats 4000000 in
set_option maxRecDepth 100000 in
theorem learnFull_walk (r o : Row) (g : Nat) (w : World) (hg : g < 256) :
    Calls Try.prog 4 #[r.v, o.v, .int .u8 (g : Nat)] w fun e w' => e = .returned (.bool true) ∧ Keep No w w' := by
  have H0 := Lib.hid (FSt.start w r o)
  have HAl := Lib.hid (fun W => alive_any W)
  unfold Row.v
  go_enter Try.func4, Try.ntmps4
  go_wp2_with (go_at_call 15; refine (new_any _).mono ?_; rintro e w' ⟨rfl, rfl⟩)
  generalize ((((w.alloc (.cells #[.int .i64 r.a, .int .i64 r.b, .int .i64 r.c, .int .i64 r.l] 33)).alloc (.cells #[.int .i64 o.a, .int .i64 o.b, .int .i64 o.c, .int .i64 o.l] 33)).alloc (.map #[] 0)).alloc (.cells #[.bool true, .map (some (w.heap.size + 1 + 1)), .int .i64 0] 83)) = w1 at *
  have f0 := H0.out.b1.cell 0
  have f1 := H0.out.b1.cell 1
  have f2 := H0.out.b1.cell 2
  have f3 := H0.out.b1.cell 3
  simp only [List.getElem?_toArray, List.getElem?_cons_zero, List.getElem?_cons_succ] at f0 f1 f2 f3
  by_cases hr : okRow r
  · have HL1 := Lib.hid (H0.out.yes hr (by simp))
    by_cases ho : okRow o
    · go_wp2_with fail
      refine HL1.out.mono ?_
      rintro e w2 ⟨rfl, h2⟩
      have H2 := Lib.hid h2
      have HL2 := Lib.hid (h2.yes ho (by simp))
      have g0 := h2.b2.cell 0
      have g1 := h2.b2.cell 1
      have g2 := h2.b2.cell 2
      have g3 := h2.b2.cell 3
      simp only [List.getElem?_toArray, List.getElem?_cons_zero, List.getElem?_cons_succ] at g0 g1 g2 g3
      clear h2 HL1 f0 f1 f2 f3 H0
      go_wp2_with fail
      refine HL2.out.mono ?_
      rintro e w3 ⟨rfl, h3⟩
      have H3 := Lib.hid (show FSt w w3 r o (List.replicate 0 r ++ [o, r]) from h3)
      clear h3 HL2 H2 g0 g1 g2 g3
      have HRO := Lib.hid (show _ ∧ _ from ⟨hr, ho⟩)
      clear hr ho
      go_wp2_with fail
      go_loopw [23] (fun v23 wr => ∃ k : Nat, k ≤ 498 ∧ v23 = .int .i64 k ∧ Hid (FSt w wr r o (List.replicate k r ++ [o, r]))) (fun i _ => 498 - (intOf i).toNat)
      case atStart => exact ⟨0, Nat.zero_le _, rfl, H3⟩
      case round =>
        clear H3
        obtain ⟨k, hk, rfl, hI⟩ := hrel
        by_cases hlt : k < 498
        · have j1 : (k : Int) < 498 := by omega
          have f0 := hI.out.b1.cell 0
          have f1 := hI.out.b1.cell 1
          have f2 := hI.out.b1.cell 2
          have f3 := hI.out.b1.cell 3
          simp only [List.getElem?_toArray, List.getElem?_cons_zero, List.getElem?_cons_succ] at f0 f1 f2 f3
          have HL := Lib.hid (hI.out.yes HRO.out.1 (by simp; omega))
          clear hI
          go_wp2_with (go_at_call 16; refine HL.out.mono ?_; rintro e w4 ⟨rfl, h4⟩; have H4 := Lib.hid (show FSt w w4 r o (List.replicate (k + 1) r ++ [o, r]) from by rw [List.replicate_succ]; exact h4); clear h4)
          go_roundw
          case rel => exact ⟨k + 1, by omega, by go_num, H4⟩
          case measure => simp [intOf]; omega
        · obtain rfl : k = 498 := by omega
          have HS := Lib.hid hI.out
          have HIm := Lib.hid (hI.out.image)
          clear hI
          go_wp2_with (go_at_call 17; refine HIm.out.mono ?_; rintro e w5 ⟨A5, n5, c5, L5, rfl, hc5, hp5, hb5, h5, _⟩; have H5 := Lib.hid h5; have C5 := Lib.hid (show _ ∧ _ ∧ _ from ⟨hc5, hp5, hb5⟩); clear h5 hc5 hp5 hb5)
          clear HS HIm
          have hl5 : (List.replicate 498 r ++ [o, r]).length = 500 := by simp
          have HL5 := Lib.hid (fun W (hW : Keep No w5 W) => mlen_any (H5.out.new_ hW).md)
          have HF5 := Lib.hid (fun W (hW : Keep No w5 W) => FSt.full (H5.out.new_ hW) HRO.out.2 (by rw [hl5]; exact Nat.le_refl _))
          rw [hl5] at HL5
          have HX5 := Lib.hid (show ∀ W, Keep No w5 W → (W.cell? ⟨w.heap.size + 1, 0, none⟩ = some (.int .i64 o.a) ∧ W.cell? ⟨w.heap.size + 1, 1, none⟩ = some (.int .i64 o.b) ∧ W.cell? ⟨w.heap.size + 1, 2, none⟩ = some (.int .i64 o.c) ∧ W.cell? ⟨w.heap.size + 1, 3, none⟩ = some (.int .i64 o.l)) ∧ (convert 41 9 (.slice A5 n5 c5)).run Try.prog W = .ok (.string ⟨(imgL L5).toArray⟩) W from fun W hW => by
            have h := H5.out.new_ hW
            exact ⟨⟨h.b2.cell 0, h.b2.cell 1, h.b2.cell 2, h.b2.cell 3⟩, Bytes.conv (C5.out.2.2.new_ hW) c5 Try.underlying41 Try.underlying5 Try.underlying9⟩)
          clear hl5
          go_wp2_with fail
          have K0 := Lib.hid ((Keep.refl No w5).drew)
          obtain ⟨⟨g0, g1, g2, g3⟩, _⟩ := HX5.out w5 (Keep.refl _ _)
          go_region_with (first
              | (go_at_call 18; refine (HL5.out _ K0.out).mono ?_; rintro e w' ⟨rfl, rfl⟩)
              | (go_at_call 16; refine (HF5.out _ K0.out).mono ?_; rintro e w6 ⟨rfl, h6, k6⟩; have K6 := Lib.hid (K0.out.trans k6 (fun _ x => x.elim)); have hcv6 := (HX5.out _ K6.out).2; have H6 := Lib.hid h6; clear h6 k6)
              | (go_at_call 17; refine (H6.out.image).mono ?_; rintro e w7 ⟨A7, n7, c7, L7, rfl, hc7, hp7, hb7, h7, k7⟩; have K7 := Lib.hid (K6.out.trans k7 (fun _ x => x.elim)); have H7 := Lib.hid h7; obtain rfl := canon_one hc7 C5.out.1 (hp7.trans C5.out.2.1.symm); have hcv7 := Bytes.conv (P := Try.prog) hb7 c7 Try.underlying41 Try.underlying5 Try.underlying9; have hcv5 := (HX5.out _ K7.out).2; clear h7 k7 hc7 hp7 hb7))
          all_goals
            clear HL5 HF5 HX5 K0 K6 H6 HAl C5 H5
            have HS := Lib.hid H7.out
            have HAl := Lib.hid (fun W => alive_any W)
            have hq0 : (0 : Int) ≤ (g : Int) % 10 := by omega
            have hq1 : (g : Int) % 10 < 10 := by omega
            clear H7 K7 hcv7 hcv6 hcv5 g0 g1 g2 g3
            go_wp2_with fail
            go_loopw [53] (fun v53 wr => ∃ k : Nat, k ≤ g % 10 + 1 ∧ v53 = .int .i64 k ∧ Hid (FSt w wr r o (List.replicate (498 - k) r ++ [o, r]))) (fun i _ => g % 10 + 1 - (intOf i).toNat)
            case atStart => exact ⟨0, Nat.zero_le _, rfl, HS⟩
            case round =>
              clear HS
              obtain ⟨k, hk, rfl, hI⟩ := hrel
              by_cases hlt : k < g % 10 + 1
              · have j1 : (k : Int) < 1 + (g : Int) % 10 := by omega
                have f0 := hI.out.b1.cell 0
                have f1 := hI.out.b1.cell 1
                have f2 := hI.out.b1.cell 2
                have f3 := hI.out.b1.cell 3
                simp only [List.getElem?_toArray, List.getElem?_cons_zero, List.getElem?_cons_succ] at f0 f1 f2 f3
                have HL := Lib.hid (hI.out.gone (q := r) (by simp))
                have HR := Lib.hid (erase_rep (498 - (k + 1)) r [o, r])
                rw [show 498 - (k + 1) + 1 = 498 - k by omega] at HR
                clear hI
                go_wp2_with (go_at_call 19; refine HL.out.mono ?_; rintro e w8 ⟨rfl, h8⟩; have H8 := Lib.hid (show FSt w w8 r o (List.replicate (498 - (k + 1)) r ++ [o, r]) from HR.out ▸ h8); clear h8)
                go_roundw
                case rel => exact ⟨k + 1, by omega, by go_num, H8⟩
                case measure => simp [intOf]; omega
              · obtain rfl : k = g % 10 + 1 := by omega
                have hl8 : (List.replicate (498 - (g % 10 + 1)) r ++ [o, r]).length = 499 - g % 10 := by simp; omega
                have j1 : ((g % 10 + 1 : Nat) : Int) = 1 + (g : Int) % 10 := by omega
                have g0 := hI.out.b2.cell 0
                have g1 := hI.out.b2.cell 1
                have g2 := hI.out.b2.cell 2
                have g3 := hI.out.b2.cell 3
                simp only [List.getElem?_toArray, List.getElem?_cons_zero, List.getElem?_cons_succ] at g0 g1 g2 g3
                have HL := Lib.hid (hI.out.yes HRO.out.2 (by omega))
                have HLn := Lib.hid (fun W (h : FSt w W r o (o :: (List.replicate (498 - (g % 10 + 1)) r ++ [o, r]))) => mlen_any h.md)
                have hll : ((o :: (List.replicate (498 - (g % 10 + 1)) r ++ [o, r])).length : Int) = 500 - (g : Int) % 10 := by simp; omega
                rw [hll] at HLn
                clear hI hl8 hll
                rw [j1]
                clear j1
                go_wp2_with (first
                  | (go_at_call 16; refine HL.out.mono ?_; rintro e w8 ⟨rfl, h8⟩; have H8 := Lib.hid h8; clear h8)
                  | (go_at_call 18; refine (HLn.out _ H8.out).mono ?_; rintro e w' ⟨rfl, rfl⟩)
                  | (go_at_call 12; refine (HAl.out _).mono ?_; rintro e w9 ⟨rfl, hk9⟩; have HK9 := Lib.hid (H8.out.kp.trans hk9 (fun _ x => x.elim)); clear hk9))
                go_ret
                exact ⟨rfl, HK9.out⟩
    · have HL2 := Lib.hid (fun W (h : FSt w W r o [r]) => h.bad ho)
      go_wp2_with fail
      refine HL1.out.mono ?_
      rintro e w2 ⟨rfl, h2⟩
      have H2 := Lib.hid h2
      have g0 := h2.b2.cell 0
      have g1 := h2.b2.cell 1
      have g2 := h2.b2.cell 2
      have g3 := h2.b2.cell 3
      simp only [List.getElem?_toArray, List.getElem?_cons_zero, List.getElem?_cons_succ] at g0 g1 g2 g3
      clear h2 HL1 f0 f1 f2 f3 H0
      go_wp2_with (first
        | (go_at_call 16; refine (HL2.out _ H2.out).mono ?_; rintro e w3 ⟨rfl, h3⟩; have H3 := Lib.hid h3; clear h3)
        | (go_at_call 12; refine (HAl.out _).mono ?_; rintro e w9 ⟨rfl, hk9⟩; have HK9 := Lib.hid (H3.out.kp.trans hk9 (fun _ x => x.elim)); clear hk9))
      go_ret
      exact ⟨rfl, HK9.out⟩
  · have HL1 := Lib.hid (H0.out.bad hr)
    go_wp2_with (first
      | (go_at_call 16; refine HL1.out.mono ?_; rintro e w3 ⟨rfl, h3⟩; have H3 := Lib.hid h3; clear h3)
      | (go_at_call 12; refine (HAl.out _).mono ?_; rintro e w9 ⟨rfl, hk9⟩; have HK9 := Lib.hid (H3.out.kp.trans hk9 (fun _ x => x.elim)); clear hk9))
    go_ret
    exact ⟨rfl, HK9.out⟩
end Go.Proofs.Ytgabidgpngiecaa
