/- The reference's Counts, major, squares, for rows that are read. Conditions: each names its own. -/
import Derived.Test.YtgabidgpngiecaaGreatLTA
import Derived.Test.YtgabidgpngiecaaGreatLR0
namespace Go.Proofs.YtgabidgpngiecaaGreat
open Go.RowKit Go.Proofs.YtgabidgpngiecaaGreatKit Go.Proofs.YtgabidgpngiecaaGreatPlain

theorem RIn.off {base : Nat} {w w' : World} {v : Value} {l : List Row} {S : Nat → Prop} (h : RIn base w v l) (hk : Keep S w w') (hs : Off base 30 w S) : RIn base w' v l := by
  obtain ⟨A, c, e, hc, hr⟩ := h
  exact ⟨A, c, e, hc, Reads.off hr hk hs⟩
/-- What Counts holds. -/
structure CoR (B : Nat) (w W : World) (v : Value) (l T : List Row) : Prop where
  ro : RIn B W v l
  bs : B ≤ w.heap.size
  re : Blk W w.heap.size 62 (votesA [])
  ou : Blk W (w.heap.size + 1) 62 (votesA T)
  kp : Keep No w W
theorem CoR.new_ {B : Nat} {w W W' : World} {v : Value} {l T : List Row} (h : CoR B w W v l T) (hk : Keep No W W') : CoR B w W' v l T := ⟨h.ro.new_ hk, h.bs, h.re.keep hk (fun x => x), h.ou.keep hk (fun x => x), h.kp.trans hk (fun _ x => x.elim)⟩
theorem CoR.step {B : Nat} {w W : World} {v : Value} {l T : List Row} {r : Row} {lab : Nat} (h : CoR B w W v l T) (hl : r.l = (lab : Nat)) : CoR B w (W.setCell ⟨w.heap.size + 1, lab, none⟩ (.int .i64 ((cntL T lab : Nat) + 1))) v l (T ++ [r]) := by
  have hk : Keep (fun b => b = w.heap.size + 1) W (W.setCell ⟨w.heap.size + 1, lab, none⟩ (.int .i64 ((cntL T lab : Nat) + 1))) := (Keep.refl (fun b => b = w.heap.size + 1) W).setCell (p := ⟨w.heap.size + 1, lab, none⟩) (.inl rfl) _
  refine ⟨h.ro.off hk (fun k e => ⟨by have := h.bs; omega, by subst e; exact ⟨_, _, _, h.ou, by decide⟩⟩), h.bs, h.re.keep hk (by omega), ?_, h.kp.trans hk (fun k e => .inr (by omega))⟩
  have h1 := votesA_add T r 1 lab hl
  rw [show List.replicate 1 r = [r] from rfl] at h1
  rw [← h1]
  exact h.ou.set_ lab _
set_option maxHeartbeats 1000000 in
set_option maxRecDepth 100000 in
theorem rcounts_in {B : Nat} {w : World} {v : Value} {l : List Row} (h : RIn B w v l) (hB : B ≤ w.heap.size) (hok : ∀ r ∈ l, okRow r) (hl : l.length ≤ 500) :
    Calls Tryz.prog 30 #[v] w fun e w' => e = .returned (labV (cnt8 l)) ∧ Keep No w w' := by
  obtain ⟨A, c, rfl, hc, -⟩ := id h
  have hz : (w.alloc (.cells #[.int .i64 0, .int .i64 0, .int .i64 0, .int .i64 0, .int .i64 0, .int .i64 0, .int .i64 0, .int .i64 0] 62)).heap.size = w.heap.size + 1 := by simp
  have b2 := Blk.new (w.alloc (.cells #[.int .i64 0, .int .i64 0, .int .i64 0, .int .i64 0, .int .i64 0, .int .i64 0, .int .i64 0, .int .i64 0] 62)) 62 #[.int .i64 0, .int .i64 0, .int .i64 0, .int .i64 0, .int .i64 0, .int .i64 0, .int .i64 0, .int .i64 0]
  rw [hz] at b2
  have H0 := Lib.hid (show CoR B w ((w.alloc (.cells #[.int .i64 0, .int .i64 0, .int .i64 0, .int .i64 0, .int .i64 0, .int .i64 0, .int .i64 0, .int .i64 0] 62)).alloc (.cells #[.int .i64 0, .int .i64 0, .int .i64 0, .int .i64 0, .int .i64 0, .int .i64 0, .int .i64 0, .int .i64 0] 62)) (.slice A l.length c) l [] from
    ⟨(h.new_ ((Keep.refl No w).alloc _)).new_ ((Keep.refl No _).alloc _), hB, (Blk.new w _ _).alloc _, b2, ((Keep.refl No w).alloc _).alloc _⟩)
  have HOK := Lib.hid hok
  clear hok hz b2 h
  go_enter Tryz.func30, Tryz.ntmps30
  go_wp2_with fail
  generalize (w.alloc (.cells #[.int .i64 0, .int .i64 0, .int .i64 0, .int .i64 0, .int .i64 0, .int .i64 0, .int .i64 0, .int .i64 0] 62)).alloc (.cells #[.int .i64 0, .int .i64 0, .int .i64 0, .int .i64 0, .int .i64 0, .int .i64 0, .int .i64 0, .int .i64 0] 62) = w0 at *
  go_loopg [4] l.length (fun kx s4 wr => ∃ k : Nat, s4 = .int .i64 k ∧ k ≤ l.length ∧ l.length ≤ k + kx ∧ Hid (CoR B w wr (.slice A l.length c) l (l.take k)))
  case atStart => exact ⟨0, rfl, Nat.zero_le _, by omega, H0⟩
  case round =>
    clear H0
    obtain ⟨k, rfl, hk, hkx, HS⟩ := hrel
    by_cases hlt : k < l.length
    · obtain ⟨A0, c0, eA, _, hR⟩ := HS.out.ro
      injection eA with eA _ ec
      subst eA
      subst ec
      obtain ⟨ad, rfl, _, _, _, _, e3⟩ := hR.at_ hlt
      have hok := HOK.out _ (List.getElem_mem hlt)
      have hex := Lib.hid (List.take_append_getElem hlt)
      clear hR
      generalize l[k] = p at *
      obtain ⟨lab, hlab⟩ : ∃ lab : Nat, p.l = lab := ⟨p.l.toNat, by have := hok.2.2.2.1; omega⟩
      have h8 : lab < 8 := by have := hok.2.2.2.2; omega
      have cn := HS.out.ou.cell lab
      rw [votesA_get _ h8] at cn
      have rn := HS.out.ou.frozen lab
      rw [hlab] at e3
      have q0 : (0 : Int) ≤ (lab : Int) := by omega
      have q1 : (lab : Int) < 8 := by omega
      have HT := Lib.hid (HS.out.step (r := p) (lab := lab) hlab)
      have hcl : cntL (l.take k) (lab : Int) ≤ 500 := by
        have h1 := cntL_le (l.take k) (lab : Int)
        have h2 : (l.take k).length ≤ k := by rw [List.length_take]; omega
        omega
      generalize cntL (l.take k) (lab : Int) = cn0 at *
      have j0 : (0 : Int) ≤ (k : Int) := by omega
      have j1 : (k : Int) < (l.length : Int) := by omega
      have hk5 : k < 500 := by omega
      clear hok hlab HS
      go_wp2_with fail
      go_roundg (l.length - (k + 1))
      case measure => omega
      case rel => exact ⟨k + 1, by go_num, by omega, by omega, by rw [← hex.out]; exact HT⟩
    · obtain rfl : k = l.length := by omega
      have HT := Lib.hid (show CoR B w wr (.slice A l.length c) l l from by have := HS.out; rwa [List.take_length] at this)
      clear HS
      have f0 := HT.out.ou.cell 0
      have f1 := HT.out.ou.cell 1
      have f2 := HT.out.ou.cell 2
      have f3 := HT.out.ou.cell 3
      have f4 := HT.out.ou.cell 4
      have f5 := HT.out.ou.cell 5
      have f6 := HT.out.ou.cell 6
      have f7 := HT.out.ou.cell 7
      rw [votesA_get _ (by omega)] at f0 f1 f2 f3 f4 f5 f6 f7
      have g0 := HT.out.re.cell 0
      have g1 := HT.out.re.cell 1
      have g2 := HT.out.re.cell 2
      have g3 := HT.out.re.cell 3
      have g4 := HT.out.re.cell 4
      have g5 := HT.out.re.cell 5
      have g6 := HT.out.re.cell 6
      have g7 := HT.out.re.cell 7
      rw [votesA_get _ (by omega)] at g0 g1 g2 g3 g4 g5 g6 g7
      have r0 := HT.out.re.frozen 0
      have r1 := HT.out.re.frozen 1
      have r2 := HT.out.re.frozen 2
      have r3 := HT.out.re.frozen 3
      have r4 := HT.out.re.frozen 4
      have r5 := HT.out.re.frozen 5
      have r6 := HT.out.re.frozen 6
      have r7 := HT.out.re.frozen 7
      go_wp2_with fail
      have hb := ((((((((HT.out.re.set_ 0 (.int .i64 (cntL l (0 : Int) : Nat))).set_ 1 (.int .i64 (cntL l (1 : Int) : Nat))).set_ 2 (.int .i64 (cntL l (2 : Int) : Nat))).set_ 3 (.int .i64 (cntL l (3 : Int) : Nat))).set_ 4 (.int .i64 (cntL l (4 : Int) : Nat))).set_ 5 (.int .i64 (cntL l (5 : Int) : Nat))).set_ 6 (.int .i64 (cntL l (6 : Int) : Nat))).set_ 7 (.int .i64 (cntL l (7 : Int) : Nat)))
      rw [zero_put l] at hb
      have hk := (((((((((Keep.refl (fun b => b = w.heap.size) wr).setCell (p := ⟨w.heap.size, 0, none⟩) (.inl rfl) (.int .i64 (cntL l (0 : Int) : Nat))).setCell (p := ⟨w.heap.size, 1, none⟩) (.inl rfl) (.int .i64 (cntL l (1 : Int) : Nat))).setCell (p := ⟨w.heap.size, 2, none⟩) (.inl rfl) (.int .i64 (cntL l (2 : Int) : Nat))).setCell (p := ⟨w.heap.size, 3, none⟩) (.inl rfl) (.int .i64 (cntL l (3 : Int) : Nat))).setCell (p := ⟨w.heap.size, 4, none⟩) (.inl rfl) (.int .i64 (cntL l (4 : Int) : Nat))).setCell (p := ⟨w.heap.size, 5, none⟩) (.inl rfl) (.int .i64 (cntL l (5 : Int) : Nat))).setCell (p := ⟨w.heap.size, 6, none⟩) (.inl rfl) (.int .i64 (cntL l (6 : Int) : Nat))).setCell (p := ⟨w.heap.size, 7, none⟩) (.inl rfl) (.int .i64 (cntL l (7 : Int) : Nat)))
      refine bodyPost_ret (results_cell_row rfl _ _ w.heap.size 62 (votesA l) (0, 0) _ rfl hb Tryz.underlying62 rfl info_size_8) rfl ⟨rfl, HT.out.kp.trans hk (fun k e => .inr (by omega))⟩


/-- A block of eight numbers. -/
structure RC8 (w W : World) (g : Nat) (c : Nat → Nat) : Prop where
  at_ : ∀ k, k < 8 → W.cell? ⟨g, k, none⟩ = some (.int .i64 (c k : Nat))
  lt : g < W.heap.size
  kp : Keep No w W
theorem RC8.new_ {w W W' : World} {g : Nat} {c : Nat → Nat} (h : RC8 w W g c) (hk : Keep No W W') : RC8 w W' g c :=
  ⟨fun k h8 => (hk.cell (p := ⟨g, k, none⟩) h.lt (fun x => x)).trans (h.at_ k h8), Nat.lt_of_lt_of_le h.lt hk.size, h.kp.trans hk (fun _ x => x.elim)⟩
theorem RC8.made {w w1 : World} (c : Nat → Nat) (hk : Keep No w w1) : RC8 w (w1.alloc (.cells #[.int .i64 (c 0 : Nat), .int .i64 (c 1 : Nat), .int .i64 (c 2 : Nat), .int .i64 (c 3 : Nat), .int .i64 (c 4 : Nat), .int .i64 (c 5 : Nat), .int .i64 (c 6 : Nat), .int .i64 (c 7 : Nat)] 62)) w1.heap.size c := by
  have B := Blk.new w1 62 #[.int .i64 (c 0 : Nat), .int .i64 (c 1 : Nat), .int .i64 (c 2 : Nat), .int .i64 (c 3 : Nat), .int .i64 (c 4 : Nat), .int .i64 (c 5 : Nat), .int .i64 (c 6 : Nat), .int .i64 (c 7 : Nat)]
  refine ⟨fun k h8 => ?_, B.lt, hk.alloc _⟩
  have h := B.cell k
  rw [h]
  rcases (show k = 0 ∨ k = 1 ∨ k = 2 ∨ k = 3 ∨ k = 4 ∨ k = 5 ∨ k = 6 ∨ k = 7 by omega) with rfl | rfl | rfl | rfl | rfl | rfl | rfl | rfl <;> rfl
set_option maxHeartbeats 1000000 in
set_option maxRecDepth 100000 in
theorem rmajor_any {B : Nat} {w : World} {v : Value} {l : List Row} (h : RIn B w v l) (hB : B ≤ w.heap.size) (hok : ∀ r ∈ l, okRow r) (hl : l.length ≤ 500) :
    Calls Tryz.prog 65 #[v] w fun e w' => e = .returned (.int .i64 (mostC (cnt8 l) 8 : Nat)) ∧ Keep No w w' := by
  have HC := Lib.hid (rcounts_in h hB hok hl)
  have hc5 : ∀ i, cnt8 l i ≤ 500 := fun i => Nat.le_trans (cntL_le _ _) hl
  have HC5 := Lib.hid hc5
  clear h hc5
  generalize cnt8 l = f at *
  unfold labV at HC
  go_enter Tryz.func65, Tryz.ntmps65
  go_wp2_with fail
  refine HC.out.mono ?_
  rintro e w1 ⟨rfl, hk1⟩
  have H0 := Lib.hid (RC8.made f hk1)
  clear hk1 HC
  go_wp2_with fail
  generalize w1.alloc (.cells #[.int .i64 (f 0 : Nat), .int .i64 (f 1 : Nat), .int .i64 (f 2 : Nat), .int .i64 (f 3 : Nat), .int .i64 (f 4 : Nat), .int .i64 (f 5 : Nat), .int .i64 (f 6 : Nat), .int .i64 (f 7 : Nat)] 62) = w2 at *
  generalize w1.heap.size = g at *
  go_loopg [4, 5] 8 (fun kx s4 s5 wr => ∃ k m : Nat, s5 = .int .i64 k ∧ k ≤ 8 ∧ 8 ≤ k + kx ∧ s4 = .int .i64 m ∧ m < 8 ∧ Hid (m = mostC f k) ∧ Hid (RC8 w wr g f))
  case atStart => exact ⟨1, 0, rfl, by omega, by omega, rfl, by omega, Lib.hid (by simp [mostC]), H0⟩
  case round =>
    clear H0
    obtain ⟨k, m, rfl, hk, hkx, rfl, hm, HM, HS⟩ := hrel
    by_cases h8 : k < 8
    · have f0 := HS.out.at_ m hm
      have f1 := HS.out.at_ k h8
      have j0 : (0 : Int) ≤ (k : Int) := by omega
      have j1 : (k : Int) < 8 := by omega
      have i0 : (0 : Int) ≤ (m : Int) := by omega
      have i1 : (m : Int) < 8 := by omega
      by_cases hgt : f m < f k
      · have hg : decide ((f m : Int) < (f k : Int)) = true := decide_eq_true (by omega)
        have hg2 : decide (f m < f k) = true := decide_eq_true hgt
        have HE := Lib.hid (show k = mostC f (k + 1) from by rw [mostC, ← HM.out, if_pos hgt])
        clear hgt
        go_wp2_with fail
        go_quiet (fail)
        go_wp2_with fail
        go_roundg (8 - (k + 1))
        case measure => omega
        case rel => exact ⟨k + 1, k, by go_num, by omega, by omega, rfl, h8, HE, Lib.hid (HS.out.new_ ((Keep.refl No _).drewN _))⟩
      · have hg : decide ((f m : Int) < (f k : Int)) = false := decide_eq_false (by omega)
        have hg2 : decide (f m < f k) = false := decide_eq_false hgt
        have HE := Lib.hid (show m = mostC f (k + 1) from by rw [mostC, ← HM.out, if_neg hgt])
        clear hgt
        go_wp2_with fail
        go_quiet (fail)
        go_wp2_with fail
        go_roundg (8 - (k + 1))
        case measure => omega
        case rel => exact ⟨k + 1, m, by go_num, by omega, by omega, rfl, hm, HE, Lib.hid (HS.out.new_ ((Keep.refl No _).drewN _))⟩
    · obtain rfl : k = 8 := by omega
      go_wp2_with fail
      go_ret
      exact ⟨ret_int (by rw [HM.out]), HS.out.kp⟩
set_option maxHeartbeats 1000000 in
set_option maxRecDepth 100000 in
theorem rsquares_any {B : Nat} {w : World} {v : Value} {l : List Row} (h : RIn B w v l) (hB : B ≤ w.heap.size) (hok : ∀ r ∈ l, okRow r) (hl : l.length ≤ 500) :
    Calls Tryz.prog 67 #[v] w fun e w' => e = .returned (.int .i64 (sqC (cnt8 l) 8)) ∧ Keep No w w' := by
  have HC := Lib.hid (rcounts_in h hB hok hl)
  have hc5 : ∀ i, cnt8 l i ≤ 500 := fun i => Nat.le_trans (cntL_le _ _) hl
  have HC5 := Lib.hid hc5
  clear h hc5
  generalize cnt8 l = f at *
  unfold labV at HC
  go_enter Tryz.func67, Tryz.ntmps67
  go_wp2_with fail
  refine HC.out.mono ?_
  rintro e w1 ⟨rfl, hk1⟩
  have H0 := Lib.hid (RC8.made f hk1)
  clear hk1 HC
  go_wp2_with fail
  generalize w1.alloc (.cells #[.int .i64 (f 0 : Nat), .int .i64 (f 1 : Nat), .int .i64 (f 2 : Nat), .int .i64 (f 3 : Nat), .int .i64 (f 4 : Nat), .int .i64 (f 5 : Nat), .int .i64 (f 6 : Nat), .int .i64 (f 7 : Nat)] 62) = w2 at *
  generalize w1.heap.size = g at *
  go_loopg [4, 5] 8 (fun kx s4 s5 wr => ∃ (k : Nat) (q : Int), s5 = .int .i64 k ∧ k ≤ 8 ∧ 8 ≤ k + kx ∧ s4 = .int .i64 q ∧ Hid (q = sqC f k) ∧ Hid (RC8 w wr g f))
  case atStart => exact ⟨0, 0, rfl, by omega, by omega, rfl, Lib.hid rfl, H0⟩
  case round =>
    clear H0
    obtain ⟨k, q, rfl, hk, hkx, rfl, HM, HS⟩ := hrel
    by_cases h8 : k < 8
    · have f1 := HS.out.at_ k h8
      have j0 : (0 : Int) ≤ (k : Int) := by omega
      have j1 : (k : Int) < 8 := by omega
      have hck := HC5.out k
      have hq := sqC_bd (c := f) (m := 8) (fun i _ => by have := HC5.out i; omega) k hk
      rw [← HM.out] at hq
      have hm2 := mul_bd (U := 500) (V := 500) (u := (f k : Int)) (v := (f k : Int)) (by omega) (by omega)
      have HE := Lib.hid (show q + (f k : Int) * (f k : Int) = sqC f (k + 1) from by rw [sqC, ← HM.out])
      generalize f k = ck at *
      have q1 : IntKind.i64.wrap ((ck : Int) * (ck : Int)) = (ck : Int) * (ck : Int) := fit64 (by omega) (by omega)
      have q2 : IntKind.i64.wrap (q + (ck : Int) * (ck : Int)) = q + (ck : Int) * (ck : Int) := fit64 (by omega) (by omega)
      clear hq hm2
      go_wp2_with fail
      go_quiet (fail)
      go_wp2_with fail
      go_roundg (8 - (k + 1))
      case measure => omega
      case rel => exact ⟨k + 1, _, by go_num, by omega, by omega, rfl, HE, Lib.hid (HS.out.new_ ((Keep.refl No _).drewN _))⟩
    · obtain rfl : k = 8 := by omega
      go_wp2_with fail
      go_ret
      exact ⟨ret_int HM.out, HS.out.kp⟩
end Go.Proofs.YtgabidgpngiecaaGreat
