/- Contracts of the law's Counts and parted. Conditions: each names its own. -/
import Derived.Test.YtgabidgpngiecaaGreatLT9
import Derived.Test.YtgabidgpngiecaaGreatL8
import Derived.Test.YtgabidgpngiecaaGreatLC0
import Derived.BigQuiet
namespace Go.Proofs.YtgabidgpngiecaaGreat
open Go.RowKit Go.Proofs.YtgabidgpngiecaaGreatKit Go.Proofs.YtgabidgpngiecaaGreatPlain

/-! ### As in LearnSquares -/
theorem lowest_mid {n d p q : Int} (h : Lowest n d p q) (h1 : Mid n) (h2 : Mid d) (hd : 0 < d) : Mid p ∧ Mid q := by
  obtain ⟨_, e1, e2, _⟩ := h
  have hg : 0 < Int.gcd n d := Int.gcd_pos_of_ne_zero_right _ (by omega)
  have a1 := congrArg Int.natAbs e1
  have a2 := congrArg Int.natAbs e2
  rw [Int.natAbs_mul, Int.natAbs_natCast] at a1 a2
  have b1 : p.natAbs ≤ n.natAbs := by rw [← a1]; exact Nat.le_mul_of_pos_right _ hg
  have b2 : q.natAbs ≤ d.natAbs := by rw [← a2]; exact Nat.le_mul_of_pos_right _ hg
  unfold Mid at *
  omega
theorem ROwn.at_ {B : Nat} {w : World} {A : Option Addr} {c : Nat} {l : List Row} (h : ROwn B w (.slice A l.length c) l) (hn : 0 < l.length) : ∃ g', A = some ⟨g', 0, none⟩ ∧ g' < w.heap.size ∧ ∀ (k : Nat) (hk : k < l.length) (j : Nat) (u : Value), l[k].cells[j]? = some u → w.cell? ⟨g', k * 4 + j, none⟩ = some u := by
  obtain ⟨h1, ⟨_, h3⟩ | ⟨g', cap, cur, h2, _, hg, _⟩⟩ := id h
  · omega
  · injection h2 with h2 _ _
    subst h2
    refine ⟨g', rfl, Blk.lt hg, fun k hk j u hu => ?_⟩
    have := World.ownsRow.cells h (g := g') rfl _ u (rcells_get l k hk j u hu)
    rwa [Addr.add_lit, Nat.zero_add] at this
theorem row_cell (r : Row) {i : Nat} (hi : i < 3) : r.cells[i]? = some (.int .i64 (r.x i)) := by
  unfold Row.x
  rcases (show i = 0 ∨ i = 1 ∨ i = 2 by omega) with rfl | rfl | rfl <;> rfl

/-- What Counts holds. -/
structure CoS (B : Nat) (w W : World) (v : Value) (l T : List Row) : Prop where
  ro : ROwn B W v l
  re : Blk W w.heap.size 62 (votesA [])
  ou : Blk W (w.heap.size + 1) 62 (votesA T)
  kp : Keep No w W
theorem CoS.new_ {B : Nat} {w W W' : World} {v : Value} {l T : List Row} (h : CoS B w W v l T) (hk : Keep No W W') : CoS B w W' v l T := ⟨h.ro.keep hk (fun _ _ x => x), h.re.keep hk (fun x => x), h.ou.keep hk (fun x => x), h.kp.trans hk (fun _ x => x.elim)⟩
theorem CoS.step {B : Nat} {w W : World} {v : Value} {l T : List Row} {r : Row} {lab : Nat} (h : CoS B w W v l T) (hv : ∀ k, v.ownBlock = some k → k < w.heap.size) (hl : r.l = (lab : Nat)) : CoS B w (W.setCell ⟨w.heap.size + 1, lab, none⟩ (.int .i64 ((cntL T lab : Nat) + 1))) v l (T ++ [r]) := by
  have hk : Keep (fun b => b = w.heap.size + 1) W (W.setCell ⟨w.heap.size + 1, lab, none⟩ (.int .i64 ((cntL T lab : Nat) + 1))) := (Keep.refl (fun b => b = w.heap.size + 1) W).setCell (p := ⟨w.heap.size + 1, lab, none⟩) (.inl rfl) _
  refine ⟨h.ro.keep hk (fun k e e2 => by have := hv k e; omega), h.re.keep hk (by omega), ?_, h.kp.trans hk (fun k e => .inr (by omega))⟩
  have h1 := votesA_add T r 1 lab hl
  rw [show List.replicate 1 r = [r] from rfl] at h1
  rw [← h1]
  exact h.ou.set_ lab _
theorem info_size_8 : (Tryz.prog.info? 62).map (·.size) = some 8 := by kernel_rfl
theorem zero_put (l : List Row) : ((((((((votesA []).setIfInBounds 0 (.int .i64 (cntL l (0 : Int) : Nat))).setIfInBounds 1 (.int .i64 (cntL l (1 : Int) : Nat))).setIfInBounds 2 (.int .i64 (cntL l (2 : Int) : Nat))).setIfInBounds 3 (.int .i64 (cntL l (3 : Int) : Nat))).setIfInBounds 4 (.int .i64 (cntL l (4 : Int) : Nat))).setIfInBounds 5 (.int .i64 (cntL l (5 : Int) : Nat))).setIfInBounds 6 (.int .i64 (cntL l (6 : Int) : Nat))).setIfInBounds 7 (.int .i64 (cntL l (7 : Int) : Nat)) = votesA l := by
  simp [votesA, List.range, List.range.loop]
set_option maxHeartbeats 1000000 in
set_option maxRecDepth 100000 in
theorem rcounts_any {B : Nat} {w : World} {v : Value} {l : List Row} (h : ROwn B w v l) (hok : ∀ r ∈ l, okRow r) (hl : l.length ≤ 500) :
    Calls Tryz.prog 30 #[v] w fun e w' => e = .returned (labV (cnt8 l)) ∧ Keep No w w' := by
  obtain ⟨A, c, rfl, -⟩ := h.shape
  have hz : (w.alloc (.cells #[.int .i64 0, .int .i64 0, .int .i64 0, .int .i64 0, .int .i64 0, .int .i64 0, .int .i64 0, .int .i64 0] 62)).heap.size = w.heap.size + 1 := by simp
  have b2 := Blk.new (w.alloc (.cells #[.int .i64 0, .int .i64 0, .int .i64 0, .int .i64 0, .int .i64 0, .int .i64 0, .int .i64 0, .int .i64 0] 62)) 62 #[.int .i64 0, .int .i64 0, .int .i64 0, .int .i64 0, .int .i64 0, .int .i64 0, .int .i64 0, .int .i64 0]
  rw [hz] at b2
  have H0 := Lib.hid (show CoS B w ((w.alloc (.cells #[.int .i64 0, .int .i64 0, .int .i64 0, .int .i64 0, .int .i64 0, .int .i64 0, .int .i64 0, .int .i64 0] 62)).alloc (.cells #[.int .i64 0, .int .i64 0, .int .i64 0, .int .i64 0, .int .i64 0, .int .i64 0, .int .i64 0, .int .i64 0] 62)) (.slice A l.length c) l [] from
    ⟨(h.keep ((Keep.refl No w).alloc _) (fun _ _ x => x)).keep ((Keep.refl No _).alloc _) (fun _ _ x => x), (Blk.new w _ _).alloc _, b2, ((Keep.refl No w).alloc _).alloc _⟩)
  have HLT := Lib.hid (fun k e => (h.lt k e).2)
  have HOK := Lib.hid hok
  clear hok hz b2 h
  go_enter Tryz.func30, Tryz.ntmps30
  go_wp2_with fail
  generalize (w.alloc (.cells #[.int .i64 0, .int .i64 0, .int .i64 0, .int .i64 0, .int .i64 0, .int .i64 0, .int .i64 0, .int .i64 0] 62)).alloc (.cells #[.int .i64 0, .int .i64 0, .int .i64 0, .int .i64 0, .int .i64 0, .int .i64 0, .int .i64 0, .int .i64 0] 62) = w0 at *
  go_loopg [4] l.length (fun kx s4 wr => ∃ k : Nat, s4 = .int .i64 k ∧ k ≤ l.length ∧ l.length ≤ k + kx ∧ Hid (CoS B w wr (.slice A l.length c) l (l.take k)))
  case atStart => exact ⟨0, rfl, Nat.zero_le _, by omega, H0⟩
  case round =>
    clear H0
    obtain ⟨k, rfl, hk, hkx, HS⟩ := hrel
    by_cases hlt : k < l.length
    · obtain ⟨g', rfl, hg', hcells⟩ := HS.out.ro.at_ (by omega)
      have e3 := hcells k hlt 3 _ rfl
      have hok := HOK.out _ (List.getElem_mem hlt)
      have hex := Lib.hid (List.take_append_getElem hlt)
      clear hcells
      generalize l[k] = p at *
      obtain ⟨lab, hlab⟩ : ∃ lab : Nat, p.l = lab := ⟨p.l.toNat, by have := hok.2.2.2.1; omega⟩
      have h8 : lab < 8 := by have := hok.2.2.2.2; omega
      have cn := HS.out.ou.cell lab
      rw [votesA_get _ h8] at cn
      have rn := HS.out.ou.frozen lab
      rw [hlab] at e3
      have q0 : (0 : Int) ≤ (lab : Int) := by omega
      have q1 : (lab : Int) < 8 := by omega
      have HT := Lib.hid (HS.out.step (r := p) (lab := lab) HLT.out hlab)
      have hcl : cntL (l.take k) (lab : Int) ≤ 500 := by
        have h1 := cntL_le (l.take k) (lab : Int)
        have h2 : (l.take k).length ≤ k := by rw [List.length_take]; omega
        omega
      generalize cntL (l.take k) (lab : Int) = cn0 at *
      have j0 : (0 : Int) ≤ (k : Int) := by omega
      have j1 : (k : Int) < (l.length : Int) := by omega
      have hk5 : k < 500 := by omega
      clear hok hlab HS
      go_wp2_with fail
      go_roundg (l.length - (k + 1))
      case measure => omega
      case rel => exact ⟨k + 1, by go_num, by omega, by omega, by rw [← hex.out]; exact HT⟩
    · obtain rfl : k = l.length := by omega
      have HT := Lib.hid (show CoS B w wr (.slice A l.length c) l l from by have := HS.out; rwa [List.take_length] at this)
      clear HS
      have f0 := HT.out.ou.cell 0
      have f1 := HT.out.ou.cell 1
      have f2 := HT.out.ou.cell 2
      have f3 := HT.out.ou.cell 3
      have f4 := HT.out.ou.cell 4
      have f5 := HT.out.ou.cell 5
      have f6 := HT.out.ou.cell 6
      have f7 := HT.out.ou.cell 7
      rw [votesA_get _ (by omega)] at f0 f1 f2 f3 f4 f5 f6 f7
      have g0 := HT.out.re.cell 0
      have g1 := HT.out.re.cell 1
      have g2 := HT.out.re.cell 2
      have g3 := HT.out.re.cell 3
      have g4 := HT.out.re.cell 4
      have g5 := HT.out.re.cell 5
      have g6 := HT.out.re.cell 6
      have g7 := HT.out.re.cell 7
      rw [votesA_get _ (by omega)] at g0 g1 g2 g3 g4 g5 g6 g7
      have r0 := HT.out.re.frozen 0
      have r1 := HT.out.re.frozen 1
      have r2 := HT.out.re.frozen 2
      have r3 := HT.out.re.frozen 3
      have r4 := HT.out.re.frozen 4
      have r5 := HT.out.re.frozen 5
      have r6 := HT.out.re.frozen 6
      have r7 := HT.out.re.frozen 7
      go_wp2_with fail
      have hb := ((((((((HT.out.re.set_ 0 (.int .i64 (cntL l (0 : Int) : Nat))).set_ 1 (.int .i64 (cntL l (1 : Int) : Nat))).set_ 2 (.int .i64 (cntL l (2 : Int) : Nat))).set_ 3 (.int .i64 (cntL l (3 : Int) : Nat))).set_ 4 (.int .i64 (cntL l (4 : Int) : Nat))).set_ 5 (.int .i64 (cntL l (5 : Int) : Nat))).set_ 6 (.int .i64 (cntL l (6 : Int) : Nat))).set_ 7 (.int .i64 (cntL l (7 : Int) : Nat)))
      rw [zero_put l] at hb
      have hk := (((((((((Keep.refl (fun b => b = w.heap.size) wr).setCell (p := ⟨w.heap.size, 0, none⟩) (.inl rfl) (.int .i64 (cntL l (0 : Int) : Nat))).setCell (p := ⟨w.heap.size, 1, none⟩) (.inl rfl) (.int .i64 (cntL l (1 : Int) : Nat))).setCell (p := ⟨w.heap.size, 2, none⟩) (.inl rfl) (.int .i64 (cntL l (2 : Int) : Nat))).setCell (p := ⟨w.heap.size, 3, none⟩) (.inl rfl) (.int .i64 (cntL l (3 : Int) : Nat))).setCell (p := ⟨w.heap.size, 4, none⟩) (.inl rfl) (.int .i64 (cntL l (4 : Int) : Nat))).setCell (p := ⟨w.heap.size, 5, none⟩) (.inl rfl) (.int .i64 (cntL l (5 : Int) : Nat))).setCell (p := ⟨w.heap.size, 6, none⟩) (.inl rfl) (.int .i64 (cntL l (6 : Int) : Nat))).setCell (p := ⟨w.heap.size, 7, none⟩) (.inl rfl) (.int .i64 (cntL l (7 : Int) : Nat)))
      refine bodyPost_ret (results_cell_row rfl _ _ w.heap.size 62 (votesA l) (0, 0) _ rfl hb Tryz.underlying62 rfl info_size_8) rfl ⟨rfl, HT.out.kp.trans hk (fun k e => .inr (by omega))⟩

/-! ### parted -/
theorem cells_3 : Tryz.prog.cellsOf 28 = 3 := by kernel_rfl
set_option maxRecDepth 100000 in
/-- Two points compared. -/
theorem eq3 {a0 a1 a2 b0 b1 b2 : Int} (ha : ∀ n ∈ [a0, a1, a2, b0, b1, b2], -1000000 ≤ n ∧ n ≤ 1000000) (W : World) :
    (Op.equalIn 10000 28 (.agg #[.int .i64 a0, .int .i64 a1, .int .i64 a2]) (.agg #[.int .i64 b0, .int .i64 b1, .int .i64 b2])).run Tryz.prog W = .ok (decide (a0 = b0 ∧ a1 = b1 ∧ a2 = b2)) W := by
  have hw : ∀ n ∈ [a0, a1, a2, b0, b1, b2], (Lit.int .i64 n).wf = true := fun n hn => wf_small (ha n hn).1 (ha n hn).2
  simp only [List.mem_cons, List.not_mem_nil, or_false, forall_eq_or_imp, forall_eq] at hw
  obtain ⟨x0, x1, x2, y0, y1, y2⟩ := hw
  have hk : Tryz.prog.keyTypeAt 3 28 = true := by kernel_rfl
  obtain ⟨r, h1, h2⟩ := run_equalIn_deep (P := Tryz.prog) 9997 3 28 hk W 3 3 (.agg #[.int .i64 a0, .int .i64 a1, .int .i64 a2]) (.agg #[.int .i64 b0, .int .i64 b1, .int .i64 b2]) [.int .i64 a0, .int .i64 a1, .int .i64 a2] [.int .i64 b0, .int .i64 b1, .int .i64 b2]
    (by simp [Value.formed, Tryz.underlying28]; exact cells_3.symm) (by simp [Value.formed, Tryz.underlying28]; exact cells_3.symm)
    (by simp [Value.cells, Program.keyLits, Tryz.underlying28, Tryz.underlying3, cells_int, x0, x1, x2, List.range, List.range.loop]; exact cells_3.symm)
    (by simp [Value.cells, Program.keyLits, Tryz.underlying28, Tryz.underlying3, cells_int, y0, y1, y2, List.range, List.range.loop]; exact cells_3.symm)
  have e : (10000 : Nat) = 9997 + 3 := by omega
  rw [e]
  refine h1.trans ?_
  congr 1
  rw [Bool.eq_iff_iff, h2]
  simp
instance (r r' : Row) : Decidable (sameX r r') := inferInstanceAs (Decidable (_ ∧ _))
end Go.Proofs.YtgabidgpngiecaaGreat
