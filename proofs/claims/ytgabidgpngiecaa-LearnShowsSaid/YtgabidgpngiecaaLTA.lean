/- Contracts of the law's Counts and parted. Conditions: each names its own. -/
import Derived.Test.YtgabidgpngiecaaLT9
import Derived.Test.YtgabidgpngiecaaL8
import Derived.Test.YtgabidgpngiecaaLC0
import Derived.BigQuiet
namespace Go.Proofs.Ytgabidgpngiecaa
open Go.RowKit Go.Proofs.YtgabidgpngiecaaKit Go.Proofs.YtgabidgpngiecaaPlain

/-! ### As in LearnSquares -/
theorem lowest_mid {n d p q : Int} (h : Lowest n d p q) (h1 : Mid n) (h2 : Mid d) (hd : 0 < d) : Mid p ∧ Mid q := by
  obtain ⟨_, e1, e2, _⟩ := h
  have hg : 0 < Int.gcd n d := Int.gcd_pos_of_ne_zero_right _ (by omega)
  have a1 := congrArg Int.natAbs e1
  have a2 := congrArg Int.natAbs e2
  rw [Int.natAbs_mul, Int.natAbs_natCast] at a1 a2
  have b1 : p.natAbs ≤ n.natAbs := by rw [← a1]; exact Nat.le_mul_of_pos_right _ hg
  have b2 : q.natAbs ≤ d.natAbs := by rw [← a2]; exact Nat.le_mul_of_pos_right _ hg
  unfold Mid at *
  omega
theorem ROwn.at_ {B : Nat} {w : World} {A : Option Addr} {c : Nat} {l : List Row} (h : ROwn B w (.slice A l.length c) l) (hn : 0 < l.length) : ∃ g', A = some ⟨g', 0, none⟩ ∧ g' < w.heap.size ∧ ∀ (k : Nat) (hk : k < l.length) (j : Nat) (u : Value), l[k].cells[j]? = some u → w.cell? ⟨g', k * 4 + j, none⟩ = some u := by
  obtain ⟨h1, ⟨_, h3⟩ | ⟨g', cap, cur, h2, _, hg, _⟩⟩ := id h
  · omega
  · injection h2 with h2 _ _
    subst h2
    refine ⟨g', rfl, Blk.lt hg, fun k hk j u hu => ?_⟩
    have := World.ownsRow.cells h (g := g') rfl _ u (rcells_get l k hk j u hu)
    rwa [Addr.add_lit, Nat.zero_add] at this
theorem row_cell (r : Row) {i : Nat} (hi : i < 3) : r.cells[i]? = some (.int .i64 (r.x i)) := by
  unfold Row.x
  rcases (show i = 0 ∨ i = 1 ∨ i = 2 by omega) with rfl | rfl | rfl <;> rfl

/-- What Counts holds. -/
structure CoS (B : Nat) (w W : World) (v : Value) (l T : List Row) : Prop where
  ro : ROwn B W v l
  re : Blk W w.heap.size 58 (votesA [])
  ou : Blk W (w.heap.size + 1) 58 (votesA T)
  kp : Keep No w W
theorem CoS.new_ {B : Nat} {w W W' : World} {v : Value} {l T : List Row} (h : CoS B w W v l T) (hk : Keep No W W') : CoS B w W' v l T := ⟨h.ro.keep hk (fun _ _ x => x), h.re.keep hk (fun x => x), h.ou.keep hk (fun x => x), h.kp.trans hk (fun _ x => x.elim)⟩
theorem CoS.step {B : Nat} {w W : World} {v : Value} {l T : List Row} {r : Row} {lab : Nat} (h : CoS B w W v l T) (hv : ∀ k, v.ownBlock = some k → k < w.heap.size) (hl : r.l = (lab : Nat)) : CoS B w (W.setCell ⟨w.heap.size + 1, lab, none⟩ (.int .i64 ((cntL T lab : Nat) + 1))) v l (T ++ [r]) := by
  have hk : Keep (fun b => b = w.heap.size + 1) W (W.setCell ⟨w.heap.size + 1, lab, none⟩ (.int .i64 ((cntL T lab : Nat) + 1))) := (Keep.refl (fun b => b = w.heap.size + 1) W).setCell (p := ⟨w.heap.size + 1, lab, none⟩) (.inl rfl) _
  refine ⟨h.ro.keep hk (fun k e e2 => by have := hv k e; omega), h.re.keep hk (by omega), ?_, h.kp.trans hk (fun k e => .inr (by omega))⟩
  have h1 := votesA_add T r 1 lab hl
  rw [show List.replicate 1 r = [r] from rfl] at h1
  rw [← h1]
  exact h.ou.set_ lab _
theorem info_size_8 : (Try.prog.info? 58).map (·.size) = some 8 := by kernel_rfl
theorem zero_put (l : List Row) : ((((((((votesA []).setIfInBounds 0 (.int .i64 (cntL l (0 : Int) : Nat))).setIfInBounds 1 (.int .i64 (cntL l (1 : Int) : Nat))).setIfInBounds 2 (.int .i64 (cntL l (2 : Int) : Nat))).setIfInBounds 3 (.int .i64 (cntL l (3 : Int) : Nat))).setIfInBounds 4 (.int .i64 (cntL l (4 : Int) : Nat))).setIfInBounds 5 (.int .i64 (cntL l (5 : Int) : Nat))).setIfInBounds 6 (.int .i64 (cntL l (6 : Int) : Nat))).setIfInBounds 7 (.int .i64 (cntL l (7 : Int) : Nat)) = votesA l := by
  simp [votesA, List.range, List.range.loop]
set_option maxHeartbeats 1000000 in
set_option maxRecDepth 100000 in
theorem rcounts_any {B : Nat} {w : World} {v : Value} {l : List Row} (h : ROwn B w v l) (hok : ∀ r ∈ l, okRow r) (hl : l.length ≤ 500) :
    Calls Try.prog 24 #[v] w fun e w' => e = .returned (labV (cnt8 l)) ∧ Keep No w w' := by
  obtain ⟨A, c, rfl, -⟩ := h.shape
  have hz : (w.alloc (.cells #[.int .i64 0, .int .i64 0, .int .i64 0, .int .i64 0, .int .i64 0, .int .i64 0, .int .i64 0, .int .i64 0] 58)).heap.size = w.heap.size + 1 := by simp
  have b2 := Blk.new (w.alloc (.cells #[.int .i64 0, .int .i64 0, .int .i64 0, .int .i64 0, .int .i64 0, .int .i64 0, .int .i64 0, .int .i64 0] 58)) 58 #[.int .i64 0, .int .i64 0, .int .i64 0, .int .i64 0, .int .i64 0, .int .i64 0, .int .i64 0, .int .i64 0]
  rw [hz] at b2
  have H0 := Lib.hid (show CoS B w ((w.alloc (.cells #[.int .i64 0, .int .i64 0, .int .i64 0, .int .i64 0, .int .i64 0, .int .i64 0, .int .i64 0, .int .i64 0] 58)).alloc (.cells #[.int .i64 0, .int .i64 0, .int .i64 0, .int .i64 0, .int .i64 0, .int .i64 0, .int .i64 0, .int .i64 0] 58)) (.slice A l.length c) l [] from
    ⟨(h.keep ((Keep.refl No w).alloc _) (fun _ _ x => x)).keep ((Keep.refl No _).alloc _) (fun _ _ x => x), (Blk.new w _ _).alloc _, b2, ((Keep.refl No w).alloc _).alloc _⟩)
  have HLT := Lib.hid (fun k e => (h.lt k e).2)
  have HOK := Lib.hid hok
  clear hok hz b2 h
  go_enter Try.func24, Try.ntmps24
  go_wp2_with fail
  generalize (w.alloc (.cells #[.int .i64 0, .int .i64 0, .int .i64 0, .int .i64 0, .int .i64 0, .int .i64 0, .int .i64 0, .int .i64 0] 58)).alloc (.cells #[.int .i64 0, .int .i64 0, .int .i64 0, .int .i64 0, .int .i64 0, .int .i64 0, .int .i64 0, .int .i64 0] 58) = w0 at *
  go_loopg [4] l.length (fun kx s4 wr => ∃ k : Nat, s4 = .int .i64 k ∧ k ≤ l.length ∧ l.length ≤ k + kx ∧ Hid (CoS B w wr (.slice A l.length c) l (l.take k)))
  case atStart => exact ⟨0, rfl, Nat.zero_le _, by omega, H0⟩
  case round =>
    clear H0
    obtain ⟨k, rfl, hk, hkx, HS⟩ := hrel
    by_cases hlt : k < l.length
    · obtain ⟨g', rfl, hg', hcells⟩ := HS.out.ro.at_ (by omega)
      have e3 := hcells k hlt 3 _ rfl
      have hok := HOK.out _ (List.getElem_mem hlt)
      have hex := Lib.hid (List.take_append_getElem hlt)
      clear hcells
      generalize l[k] = p at *
      obtain ⟨lab, hlab⟩ : ∃ lab : Nat, p.l = lab := ⟨p.l.toNat, by have := hok.2.2.2.1; omega⟩
      have h8 : lab < 8 := by have := hok.2.2.2.2; omega
      have cn := HS.out.ou.cell lab
      rw [votesA_get _ h8] at cn
      have rn := HS.out.ou.frozen lab
      rw [hlab] at e3
      have q0 : (0 : Int) ≤ (lab : Int) := by omega
      have q1 : (lab : Int) < 8 := by omega
      have HT := Lib.hid (HS.out.step (r := p) (lab := lab) HLT.out hlab)
      have hcl : cntL (l.take k) (lab : Int) ≤ 500 := by
        have h1 := cntL_le (l.take k) (lab : Int)
        have h2 : (l.take k).length ≤ k := by rw [List.length_take]; omega
        omega
      generalize cntL (l.take k) (lab : Int) = cn0 at *
      have j0 : (0 : Int) ≤ (k : Int) := by omega
      have j1 : (k : Int) < (l.length : Int) := by omega
      have hk5 : k < 500 := by omega
      clear hok hlab HS
      go_wp2_with fail
      go_roundg (l.length - (k + 1))
      case measure => omega
      case rel => exact ⟨k + 1, by go_num, by omega, by omega, by rw [← hex.out]; exact HT⟩
    · obtain rfl : k = l.length := by omega
      have HT := Lib.hid (show CoS B w wr (.slice A l.length c) l l from by have := HS.out; rwa [List.take_length] at this)
      clear HS
      have f0 := HT.out.ou.cell 0
      have f1 := HT.out.ou.cell 1
      have f2 := HT.out.ou.cell 2
      have f3 := HT.out.ou.cell 3
      have f4 := HT.out.ou.cell 4
      have f5 := HT.out.ou.cell 5
      have f6 := HT.out.ou.cell 6
      have f7 := HT.out.ou.cell 7
      rw [votesA_get _ (by omega)] at f0 f1 f2 f3 f4 f5 f6 f7
      have g0 := HT.out.re.cell 0
      have g1 := HT.out.re.cell 1
      have g2 := HT.out.re.cell 2
      have g3 := HT.out.re.cell 3
      have g4 := HT.out.re.cell 4
      have g5 := HT.out.re.cell 5
      have g6 := HT.out.re.cell 6
      have g7 := HT.out.re.cell 7
      rw [votesA_get _ (by omega)] at g0 g1 g2 g3 g4 g5 g6 g7
      have r0 := HT.out.re.frozen 0
      have r1 := HT.out.re.frozen 1
      have r2 := HT.out.re.frozen 2
      have r3 := HT.out.re.frozen 3
      have r4 := HT.out.re.frozen 4
      have r5 := HT.out.re.frozen 5
      have r6 := HT.out.re.frozen 6
      have r7 := HT.out.re.frozen 7
      go_wp2_with fail
      have hb := ((((((((HT.out.re.set_ 0 (.int .i64 (cntL l (0 : Int) : Nat))).set_ 1 (.int .i64 (cntL l (1 : Int) : Nat))).set_ 2 (.int .i64 (cntL l (2 : Int) : Nat))).set_ 3 (.int .i64 (cntL l (3 : Int) : Nat))).set_ 4 (.int .i64 (cntL l (4 : Int) : Nat))).set_ 5 (.int .i64 (cntL l (5 : Int) : Nat))).set_ 6 (.int .i64 (cntL l (6 : Int) : Nat))).set_ 7 (.int .i64 (cntL l (7 : Int) : Nat)))
      rw [zero_put l] at hb
      have hk := (((((((((Keep.refl (fun b => b = w.heap.size) wr).setCell (p := ⟨w.heap.size, 0, none⟩) (.inl rfl) (.int .i64 (cntL l (0 : Int) : Nat))).setCell (p := ⟨w.heap.size, 1, none⟩) (.inl rfl) (.int .i64 (cntL l (1 : Int) : Nat))).setCell (p := ⟨w.heap.size, 2, none⟩) (.inl rfl) (.int .i64 (cntL l (2 : Int) : Nat))).setCell (p := ⟨w.heap.size, 3, none⟩) (.inl rfl) (.int .i64 (cntL l (3 : Int) : Nat))).setCell (p := ⟨w.heap.size, 4, none⟩) (.inl rfl) (.int .i64 (cntL l (4 : Int) : Nat))).setCell (p := ⟨w.heap.size, 5, none⟩) (.inl rfl) (.int .i64 (cntL l (5 : Int) : Nat))).setCell (p := ⟨w.heap.size, 6, none⟩) (.inl rfl) (.int .i64 (cntL l (6 : Int) : Nat))).setCell (p := ⟨w.heap.size, 7, none⟩) (.inl rfl) (.int .i64 (cntL l (7 : Int) : Nat)))
      refine bodyPost_ret (results_cell_row rfl _ _ w.heap.size 58 (votesA l) (0, 0) _ rfl hb Try.underlying58 rfl info_size_8) rfl ⟨rfl, HT.out.kp.trans hk (fun k e => .inr (by omega))⟩

/-! ### parted -/
theorem cells_3 : Try.prog.cellsOf 31 = 3 := by kernel_rfl
set_option maxRecDepth 100000 in
/-- Two points compared. -/
theorem eq3 {a0 a1 a2 b0 b1 b2 : Int} (ha : ∀ n ∈ [a0, a1, a2, b0, b1, b2], -1000000 ≤ n ∧ n ≤ 1000000) (W : World) :
    (Op.equalIn 10000 31 (.agg #[.int .i64 a0, .int .i64 a1, .int .i64 a2]) (.agg #[.int .i64 b0, .int .i64 b1, .int .i64 b2])).run Try.prog W = .ok (decide (a0 = b0 ∧ a1 = b1 ∧ a2 = b2)) W := by
  have hw : ∀ n ∈ [a0, a1, a2, b0, b1, b2], (Lit.int .i64 n).wf = true := fun n hn => wf_small (ha n hn).1 (ha n hn).2
  simp only [List.mem_cons, List.not_mem_nil, or_false, forall_eq_or_imp, forall_eq] at hw
  obtain ⟨x0, x1, x2, y0, y1, y2⟩ := hw
  have hk : Try.prog.keyTypeAt 3 31 = true := by kernel_rfl
  obtain ⟨r, h1, h2⟩ := run_equalIn_deep (P := Try.prog) 9997 3 31 hk W 3 3 (.agg #[.int .i64 a0, .int .i64 a1, .int .i64 a2]) (.agg #[.int .i64 b0, .int .i64 b1, .int .i64 b2]) [.int .i64 a0, .int .i64 a1, .int .i64 a2] [.int .i64 b0, .int .i64 b1, .int .i64 b2]
    (by simp [Value.formed, Try.underlying31]; exact cells_3.symm) (by simp [Value.formed, Try.underlying31]; exact cells_3.symm)
    (by simp [Value.cells, Program.keyLits, Try.underlying31, Try.underlying3, cells_int, x0, x1, x2, List.range, List.range.loop]; exact cells_3.symm)
    (by simp [Value.cells, Program.keyLits, Try.underlying31, Try.underlying3, cells_int, y0, y1, y2, List.range, List.range.loop]; exact cells_3.symm)
  have e : (10000 : Nat) = 9997 + 3 := by omega
  rw [e]
  refine h1.trans ?_
  congr 1
  rw [Bool.eq_iff_iff, h2]
  simp
instance (r r' : Row) : Decidable (sameX r r') := inferInstanceAs (Decidable (_ ∧ _))
theorem bne_dec (a b : Int) : (a != b) = (false || !decide (a = b)) := by by_cases h : a = b <;> simp [h]
def otherL (r0 : Row) (T : List Row) : Bool := T.any fun r => !decide (r.l = r0.l)
def otherX (r0 : Row) (T : List Row) : Bool := T.any fun r => !decide (sameX r r0)
theorem otherL_push (r0 : Row) (T : List Row) (r : Row) : otherL r0 (T ++ [r]) = (otherL r0 T || !decide (r.l = r0.l)) := by simp [otherL, List.any_append]
theorem otherX_push (r0 : Row) (T : List Row) (r : Row) : otherX r0 (T ++ [r]) = (otherX r0 T || !decide (sameX r r0)) := by simp [otherX, List.any_append]
structure PaS (B : Nat) (w W : World) (v : Value) (l : List Row) : Prop where
  ro : ROwn B W v l
  kp : Keep No w W
theorem PaS.new_ {B : Nat} {w W W' : World} {v : Value} {l : List Row} (h : PaS B w W v l) (hk : Keep No W W') : PaS B w W' v l := ⟨h.ro.keep hk (fun _ _ x => x), h.kp.trans hk (fun _ x => x.elim)⟩
set_option maxHeartbeats 1000000 in
set_option maxRecDepth 100000 in
theorem parted_at {B : Nat} {w : World} {v : Value} {l : List Row} {r0 : Row} (h : ROwn B w v l) (hok : ∀ r ∈ l, okRow r) (h0 : l[0]? = some r0) (hl : l.length ≤ 500) :
    Calls Try.prog 25 #[v] w fun e w' => e = .returned (.bool (otherL r0 l && otherX r0 l)) ∧ Keep No w w' := by
  obtain ⟨A, c, rfl, -⟩ := h.shape
  have H0 := Lib.hid (show PaS B w w (.slice A l.length c) l from ⟨h, Keep.refl _ _⟩)
  have HOK := Lib.hid (show _ ∧ _ from ⟨hok, h0⟩)
  have HNE := Lib.hid (show 0 < l.length ∧ okRow r0 from ⟨(List.getElem?_eq_some_iff.1 h0).1, hok _ (List.mem_of_getElem? h0)⟩)
  clear hok h0 h
  go_enter Try.func25, Try.ntmps25
  go_wp2_with fail
  go_loopg [3, 4, 9] l.length (fun kx s3 s4 s9 wr => ∃ (k : Nat) (bl bx : Bool), s9 = .int .i64 k ∧ k ≤ l.length ∧ l.length ≤ k + kx ∧ s3 = .bool bl ∧ s4 = .bool bx ∧ Hid (bl = otherL r0 (l.take k)) ∧ Hid (bx = otherX r0 (l.take k)) ∧ Hid (PaS B w wr (.slice A l.length c) l))
  case atStart => exact ⟨0, false, false, rfl, Nat.zero_le _, by omega, rfl, rfl, Lib.hid rfl, Lib.hid rfl, H0⟩
  case round =>
    clear H0
    obtain ⟨k, bl, bx, rfl, hk, hkx, rfl, rfl, HBL, HBX, HS⟩ := hrel
    by_cases hlt : k < l.length
    · obtain ⟨g', rfl, hg', hcells⟩ := HS.out.ro.at_ (by omega)
      have e0 := hcells k hlt 0 _ rfl
      have e1 := hcells k hlt 1 _ rfl
      have e2 := hcells k hlt 2 _ rfl
      have e3 := hcells k hlt 3 _ rfl
      rw [Nat.add_zero] at e0
      have hz := hcells 0 HNE.out.1
      have hr0 : l[0]'HNE.out.1 = r0 := (List.getElem?_eq_some_iff.1 HOK.out.2).2
      rw [hr0] at hz
      have hex := Lib.hid (List.take_append_getElem hlt)
      have hok := Lib.hid (HOK.out.1 _ (List.getElem_mem hlt))
      clear hcells hr0
      generalize l[k] = p at *
      have hkp := (Keep.refl No wr).alloc (.cells #[.int .i64 p.a, .int .i64 p.b, .int .i64 p.c, .int .i64 p.l] 33)
      have z0 := hz 0 _ rfl
      rw [Nat.zero_mul, Nat.zero_add] at z0
      have c0 := (hkp.cell (p := ⟨g', 0, none⟩) hg' (fun x => x)).trans z0
      clear z0
      have z1 := hz 1 _ rfl
      rw [Nat.zero_mul, Nat.zero_add] at z1
      have c1 := (hkp.cell (p := ⟨g', 1, none⟩) hg' (fun x => x)).trans z1
      clear z1
      have z2 := hz 2 _ rfl
      rw [Nat.zero_mul, Nat.zero_add] at z2
      have c2 := (hkp.cell (p := ⟨g', 2, none⟩) hg' (fun x => x)).trans z2
      clear z2
      have z3 := hz 3 _ rfl
      rw [Nat.zero_mul, Nat.zero_add] at z3
      have c3 := (hkp.cell (p := ⟨g', 3, none⟩) hg' (fun x => x)).trans z3
      clear z3
      have H2 := Lib.hid (HS.out.new_ hkp)
      have heq := fun W => eq3 (a0 := p.a) (a1 := p.b) (a2 := p.c) (b0 := r0.a) (b1 := r0.b) (b2 := r0.c) (by
        obtain ⟨⟨x0, x1⟩, ⟨x2, x3⟩, ⟨x4, x5⟩, _⟩ := hok.out
        obtain ⟨⟨y0, y1⟩, ⟨y2, y3⟩, ⟨y4, y5⟩, _⟩ := HNE.out.2
        intro n hn
        simp only [List.mem_cons, List.not_mem_nil, or_false] at hn
        rcases hn with rfl | rfl | rfl | rfl | rfl | rfl <;> omega) W
      have hn0 : (0 : Int) < (l.length : Int) := by omega
      have j0 : (0 : Int) ≤ (k : Int) := by omega
      have j1 : (k : Int) < (l.length : Int) := by omega
      have hk5 : k < 500 := by omega
      clear hz hkp HS
      have HLP := Lib.hid (show otherL r0 (l.take (k + 1)) = (bl || !decide (p.l = r0.l)) from by rw [← hex.out, otherL_push, HBL.out])
      have HXP := Lib.hid (show otherX r0 (l.take (k + 1)) = (bx || !decide (p.a = r0.a ∧ p.b = r0.b ∧ p.c = r0.c)) from by rw [← hex.out, otherX_push, HBX.out]; rfl)
      clear HBL HBX
      cases bl with
      | true =>
        go_wp2_with fail
        go_quiet (fail)
        cases bx with
        | true =>
          go_wp2_with fail
          go_quiet (fail)
          go_wp2_with fail
          go_roundg (l.length - (k + 1))
          case measure => omega
          case rel => exact ⟨k + 1, _, _, by go_num, by omega, by omega, rfl, rfl, Lib.hid (by rw [HLP.out]; first | rfl | exact bne_dec _ _), Lib.hid (by rw [HXP.out]; simp), Lib.hid (H2.out.new_ ((Keep.refl No _).drewN _))⟩
        | false =>
          go_wp2_with fail
          go_quiet (fail)
          go_wp2_with fail
          go_roundg (l.length - (k + 1))
          case measure => omega
          case rel => exact ⟨k + 1, _, _, by go_num, by omega, by omega, rfl, rfl, Lib.hid (by rw [HLP.out]; first | rfl | exact bne_dec _ _), Lib.hid (by rw [HXP.out]; simp), Lib.hid (H2.out.new_ ((Keep.refl No _).drewN _))⟩
      | false =>
        go_wp2_with fail
        go_quiet (fail)
        cases bx with
        | true =>
          go_wp2_with fail
          go_quiet (fail)
          go_wp2_with fail
          go_roundg (l.length - (k + 1))
          case measure => omega
          case rel => exact ⟨k + 1, _, _, by go_num, by omega, by omega, rfl, rfl, Lib.hid (by rw [HLP.out]; first | rfl | exact bne_dec _ _), Lib.hid (by rw [HXP.out]; simp), Lib.hid (H2.out.new_ ((Keep.refl No _).drewN _))⟩
        | false =>
          go_wp2_with fail
          go_quiet (fail)
          go_wp2_with fail
          go_roundg (l.length - (k + 1))
          case measure => omega
          case rel => exact ⟨k + 1, _, _, by go_num, by omega, by omega, rfl, rfl, Lib.hid (by rw [HLP.out]; first | rfl | exact bne_dec _ _), Lib.hid (by rw [HXP.out]; simp), Lib.hid (H2.out.new_ ((Keep.refl No _).drewN _))⟩
    · obtain rfl : k = l.length := by omega
      rw [List.take_length] at HBL HBX
      have HK := Lib.hid HS.out.kp
      clear HS
      cases bl with
      | true =>
        go_wp2_with fail
        go_ret
        exact ⟨ret_bool (by rw [← HBL.out, ← HBX.out]; rfl), HK.out⟩
      | false =>
        go_wp2_with fail
        go_ret
        exact ⟨ret_bool (by rw [← HBL.out, ← HBX.out]; rfl), HK.out⟩
theorem parted_any {B : Nat} {w : World} {v : Value} {l : List Row} (h : ROwn B w v l) (hok : ∀ r ∈ l, okRow r) (h0 : 0 < l.length) (hl : l.length ≤ 500) :
    Calls Try.prog 25 #[v] w fun e w' => ∃ b : Bool, e = .returned (.bool b) ∧ (b = true ↔ PartP l) ∧ Keep No w w' := by
  refine (parted_at h hok (List.getElem?_eq_getElem h0) hl).mono fun e w' ⟨he, hk⟩ => ⟨_, he, ?_, hk⟩
  unfold otherL otherX PartP
  rw [Bool.and_eq_true, List.any_eq_true, List.any_eq_true]
  constructor
  · rintro ⟨⟨r, h1, h2⟩, ⟨r', h3, h4⟩⟩
    exact ⟨_, List.getElem?_eq_getElem h0, ⟨r, h1, by simpa using h2⟩, ⟨r', h3, by simpa using h4⟩⟩
  · rintro ⟨r0, e, ⟨r, h1, h2⟩, ⟨r', h3, h4⟩⟩
    rw [List.getElem?_eq_getElem h0] at e
    injection e with e
    subst e
    exact ⟨⟨r, h1, by simpa using h2⟩, ⟨r', h3, by simpa using h4⟩⟩
end Go.Proofs.Ytgabidgpngiecaa
