/- Contracts of learn's Counts and Guess; SameBranches. Conditions: each names its own. -/
import Derived.Test.YtgabidgpngiecaaGreatLTA
import Derived.Test.YtgabidgpngiecaaGreatL5
import Derived.BigQuiet
import Derived.Test.YtgabidgpngiecaaGreatLV4
namespace Go.Proofs.YtgabidgpngiecaaGreat
open Go.RowKit Go.Proofs.YtgabidgpngiecaaGreatKit Go.Proofs.YtgabidgpngiecaaGreatPlain

set_option maxHeartbeats 1000000 in
set_option maxRecDepth 100000 in
theorem mcounts_any {base : Nat} {w : World} {mb b : Nat} {l : List Row} (h : Mdl base w mb b l) :
    Calls Tryz.prog 21 #[.pointer (some ⟨mb, 0, none⟩)] w fun e w' => e = .returned (labV (cnt8 l)) ∧ Keep No w w' := by
  have hz : (w.alloc (.cells #[.int .i64 0, .int .i64 0, .int .i64 0, .int .i64 0, .int .i64 0, .int .i64 0, .int .i64 0, .int .i64 0] 62)).heap.size = w.heap.size + 1 := by simp
  have b2 := Blk.new (w.alloc (.cells #[.int .i64 0, .int .i64 0, .int .i64 0, .int .i64 0, .int .i64 0, .int .i64 0, .int .i64 0, .int .i64 0] 62)) 85 #[.int .i64 0, .int .i64 0, .int .i64 0, .int .i64 0, .int .i64 0, .int .i64 0, .int .i64 0, .int .i64 0]
  rw [hz] at b2
  have B1 := Lib.hid ((Blk.new w 62 #[.int .i64 0, .int .i64 0, .int .i64 0, .int .i64 0, .int .i64 0, .int .i64 0, .int .i64 0, .int .i64 0]).alloc (.cells #[.int .i64 0, .int .i64 0, .int .i64 0, .int .i64 0, .int .i64 0, .int .i64 0, .int .i64 0, .int .i64 0] 85))
  have B2 := Lib.hid b2
  have K0 := Lib.hid (((Keep.refl No w).alloc (.cells #[.int .i64 0, .int .i64 0, .int .i64 0, .int .i64 0, .int .i64 0, .int .i64 0, .int .i64 0, .int .i64 0] 62)).alloc (.cells #[.int .i64 0, .int .i64 0, .int .i64 0, .int .i64 0, .int .i64 0, .int .i64 0, .int .i64 0, .int .i64 0] 85))
  have HSo := Lib.hid (sorted_any (h.new_ K0.out))
  have HLL := Lib.hid h.len
  have HSZ := Lib.hid (show ((w.alloc (.cells #[.int .i64 0, .int .i64 0, .int .i64 0, .int .i64 0, .int .i64 0, .int .i64 0, .int .i64 0, .int .i64 0] 62)).alloc (.cells #[.int .i64 0, .int .i64 0, .int .i64 0, .int .i64 0, .int .i64 0, .int .i64 0, .int .i64 0, .int .i64 0] 85)).heap.size = w.heap.size + 1 + 1 from by simp)
  clear hz b2 h
  obtain ⟨cn, hcn⟩ : ∃ cn, cn = cnt8 l := ⟨_, rfl⟩
  have HCE := Lib.hid hcn
  rw [← hcn]
  clear hcn
  go_enter Tryz.func21, Tryz.ntmps21
  go_wp2_with fail
  generalize (w.alloc (.cells #[.int .i64 0, .int .i64 0, .int .i64 0, .int .i64 0, .int .i64 0, .int .i64 0, .int .i64 0, .int .i64 0] 62)).alloc (.cells #[.int .i64 0, .int .i64 0, .int .i64 0, .int .i64 0, .int .i64 0, .int .i64 0, .int .i64 0, .int .i64 0] 85) = w0 at *
  refine HSo.out.mono ?_
  rintro e w1 ⟨v, L, rfl, hC, -, hp, h5, hok, hk1⟩
  have HT := Lib.hid (telll_any (g := w.heap.size + 1) hC (show LbAt w1 (w.heap.size + 1) [] from B2.out.keep hk1 (fun x => x)) (fun k e e2 => by have := (hC.lt k e).1; have := HSZ.out; omega) (by rw [hp.length_eq]; exact HLL.out) hok)
  have HB1 := Lib.hid (B1.out.keep hk1 (fun x => x))
  have HK1 := Lib.hid (K0.out.trans hk1 (fun _ x => x.elim))
  have HCN := Lib.hid (cnt8_perm hp)
  clear hC hp h5 hok hk1 B1 B2 HSo
  go_wp2_with fail
  refine HT.out.mono ?_
  rintro e w2 ⟨rfl, hl2, hk2⟩
  have HB2 := Lib.hid (HB1.out.keep hk2 (fun e => by omega))
  have HK2 := Lib.hid (show Keep No w w2 from HK1.out.trans hk2 (fun k e => .inr (by omega)))
  have HL2 := Lib.hid (show LbC w2 (w.heap.size + 1) cn from by rw [HCE.out, ← HCN.out]; exact LbAt.c hl2)
  clear hl2 hk2 HT HB1 HK1
  have f0 := HL2.out.at_ (k := 0) (by omega)
  have f1 := HL2.out.at_ (k := 1) (by omega)
  have f2 := HL2.out.at_ (k := 2) (by omega)
  have f3 := HL2.out.at_ (k := 3) (by omega)
  have f4 := HL2.out.at_ (k := 4) (by omega)
  have f5 := HL2.out.at_ (k := 5) (by omega)
  have f6 := HL2.out.at_ (k := 6) (by omega)
  have f7 := HL2.out.at_ (k := 7) (by omega)
  have g0 : w2.cell? ⟨w.heap.size, 0, none⟩ = some (.int .i64 0) := HB2.out.cell 0
  have r0 := HB2.out.frozen 0
  have g1 : w2.cell? ⟨w.heap.size, 1, none⟩ = some (.int .i64 0) := HB2.out.cell 1
  have r1 := HB2.out.frozen 1
  have g2 : w2.cell? ⟨w.heap.size, 2, none⟩ = some (.int .i64 0) := HB2.out.cell 2
  have r2 := HB2.out.frozen 2
  have g3 : w2.cell? ⟨w.heap.size, 3, none⟩ = some (.int .i64 0) := HB2.out.cell 3
  have r3 := HB2.out.frozen 3
  have g4 : w2.cell? ⟨w.heap.size, 4, none⟩ = some (.int .i64 0) := HB2.out.cell 4
  have r4 := HB2.out.frozen 4
  have g5 : w2.cell? ⟨w.heap.size, 5, none⟩ = some (.int .i64 0) := HB2.out.cell 5
  have r5 := HB2.out.frozen 5
  have g6 : w2.cell? ⟨w.heap.size, 6, none⟩ = some (.int .i64 0) := HB2.out.cell 6
  have r6 := HB2.out.frozen 6
  have g7 : w2.cell? ⟨w.heap.size, 7, none⟩ = some (.int .i64 0) := HB2.out.cell 7
  have r7 := HB2.out.frozen 7
  go_wp2_with fail
  have hb := ((((((((HB2.out.set_ 0 (.int .i64 (cn 0 : Nat))).set_ 1 (.int .i64 (cn 1 : Nat))).set_ 2 (.int .i64 (cn 2 : Nat))).set_ 3 (.int .i64 (cn 3 : Nat))).set_ 4 (.int .i64 (cn 4 : Nat))).set_ 5 (.int .i64 (cn 5 : Nat))).set_ 6 (.int .i64 (cn 6 : Nat))).set_ 7 (.int .i64 (cn 7 : Nat)))
  have hk := (((((((((Keep.refl (fun b => b = w.heap.size) w2).setCell (p := ⟨w.heap.size, 0, none⟩) (.inl rfl) (.int .i64 (cn 0 : Nat))).setCell (p := ⟨w.heap.size, 1, none⟩) (.inl rfl) (.int .i64 (cn 1 : Nat))).setCell (p := ⟨w.heap.size, 2, none⟩) (.inl rfl) (.int .i64 (cn 2 : Nat))).setCell (p := ⟨w.heap.size, 3, none⟩) (.inl rfl) (.int .i64 (cn 3 : Nat))).setCell (p := ⟨w.heap.size, 4, none⟩) (.inl rfl) (.int .i64 (cn 4 : Nat))).setCell (p := ⟨w.heap.size, 5, none⟩) (.inl rfl) (.int .i64 (cn 5 : Nat))).setCell (p := ⟨w.heap.size, 6, none⟩) (.inl rfl) (.int .i64 (cn 6 : Nat))).setCell (p := ⟨w.heap.size, 7, none⟩) (.inl rfl) (.int .i64 (cn 7 : Nat)))
  refine bodyPost_ret (results_cell_row rfl _ _ w.heap.size 62 #[.int .i64 (cn 0 : Nat), .int .i64 (cn 1 : Nat), .int .i64 (cn 2 : Nat), .int .i64 (cn 3 : Nat), .int .i64 (cn 4 : Nat), .int .i64 (cn 5 : Nat), .int .i64 (cn 6 : Nat), .int .i64 (cn 7 : Nat)] (0, 0) _ rfl (by exact hb) Tryz.underlying62 rfl info_size_8) rfl ⟨rfl, HK2.out.trans hk (fun k e => .inr (by omega))⟩

/-! ### SameBranches -/
def BrFit (b : Br) : Prop := ∀ n ∈ [b.col, b.cut, b.low, b.high, b.label, b.rows], -1000000 ≤ n ∧ n ≤ 1000000
theorem cells_br : Tryz.prog.cellsOf 69 = 6 := by kernel_rfl
set_option maxRecDepth 100000 in
/-- A branch compared with itself. -/
theorem eq6 {b : Br} (hb : BrFit b) (W : World) :
    (Op.equalIn 10000 69 (.agg #[.int .i64 b.col, .int .i64 b.cut, .int .i64 b.low, .int .i64 b.high, .int .i64 b.label, .int .i64 b.rows]) (.agg #[.int .i64 b.col, .int .i64 b.cut, .int .i64 b.low, .int .i64 b.high, .int .i64 b.label, .int .i64 b.rows])).run Tryz.prog W = .ok true W := by
  obtain ⟨a0, a1, a2, a3, a4, a5⟩ := b
  unfold BrFit at hb
  dsimp only at hb ⊢
  have hw : ∀ n ∈ [a0, a1, a2, a3, a4, a5], (Lit.int .i64 n).wf = true := fun n hn => wf_small (hb n hn).1 (hb n hn).2
  simp only [List.mem_cons, List.not_mem_nil, or_false, forall_eq_or_imp, forall_eq] at hw
  obtain ⟨x0, x1, x2, x3, x4, x5⟩ := hw
  have hk : Tryz.prog.keyTypeAt 3 69 = true := by kernel_rfl
  obtain ⟨r, h1, h2⟩ := run_equalIn_deep (P := Tryz.prog) 9997 3 69 hk W 3 3 (.agg #[.int .i64 a0, .int .i64 a1, .int .i64 a2, .int .i64 a3, .int .i64 a4, .int .i64 a5]) (.agg #[.int .i64 a0, .int .i64 a1, .int .i64 a2, .int .i64 a3, .int .i64 a4, .int .i64 a5]) [.int .i64 a0, .int .i64 a1, .int .i64 a2, .int .i64 a3, .int .i64 a4, .int .i64 a5] [.int .i64 a0, .int .i64 a1, .int .i64 a2, .int .i64 a3, .int .i64 a4, .int .i64 a5]
    (by simp [Value.formed, Tryz.underlying69]; exact cells_br.symm) (by simp [Value.formed, Tryz.underlying69]; exact cells_br.symm)
    (by simp [Value.cells, Program.keyLits, Tryz.underlying69, Tryz.underlying3, cells_int, x0, x1, x2, x3, x4, x5, List.range]; exact cells_br.symm)
    (by simp [Value.cells, Program.keyLits, Tryz.underlying69, Tryz.underlying3, cells_int, x0, x1, x2, x3, x4, x5, List.range]; exact cells_br.symm)
  have e : (10000 : Nat) = 9997 + 3 := by omega
  rw [e]
  refine h1.trans ?_
  congr 1
  rw [h2]
theorem br_at {B : Nat} {w : World} {v : Value} {T : List Br} (h : BOwn B w v T) (h0 : 0 < T.length) : ∃ g c, v = .slice (some ⟨g, 0, none⟩) T.length c ∧ ∀ i (hi : i < T.length) j u, j < 6 → T[i].cells[j]? = some u → w.cell? ⟨g, i * 6 + j, none⟩ = some u := by
  obtain ⟨g, c, e, _, h1, _⟩ := own_cells h h0
  refine ⟨g, c, e, fun i hi j u hj hu => h1 _ u ?_⟩
  have e1 : T = T.take i ++ T[i] :: T.drop (i + 1) := by rw [List.getElem_cons_drop, List.take_append_drop]
  have h3 := bcells_at (T.take i) (T.drop (i + 1)) T[i] hj
  rw [← e1, List.length_take, Nat.min_eq_left (by omega)] at h3
  rw [h3, hu]
set_option maxHeartbeats 1000000 in
set_option maxRecDepth 100000 in
theorem same_br {B B' : Nat} {w : World} {v v' : Value} {T : List Br} (h : BOwn B w v T) (h' : BOwn B' w v' T) (hf : ∀ b ∈ T, BrFit b) (hl : T.length ≤ 200) :
    Calls Tryz.prog 25 #[v, v'] w fun e w' => e = .returned (.bool true) ∧ Keep No w w' := by
  obtain ⟨A, c, rfl, -⟩ := own_shape h
  obtain ⟨A', c', rfl, -⟩ := own_shape h'
  have HH := Lib.hid (show _ ∧ _ ∧ _ from ⟨h, h', hf⟩)
  clear h h' hf
  go_enter Tryz.func25, Tryz.ntmps25
  go_wp2_with fail
  go_loopg [5] T.length (fun kx s5 wr => ∃ k : Nat, s5 = .int .i64 k ∧ k ≤ T.length ∧ T.length ≤ k + kx ∧ Hid (Keep No w wr))
  case atStart => exact ⟨0, rfl, Nat.zero_le _, by omega, Lib.hid (Keep.refl _ _)⟩
  case round =>
    obtain ⟨k, rfl, hk, hkx, HK⟩ := hrel
    by_cases hlt : k < T.length
    · obtain ⟨g, c1, e1, hc⟩ := br_at (HH.out.1.keep HK.out (fun _ _ x => x)) (by omega)
      obtain ⟨g', c2, e2, hc'⟩ := br_at (HH.out.2.1.keep HK.out (fun _ _ x => x)) (by omega)
      injection e1 with e1 _ q1
      injection e2 with e2 _ q2
      subst e1 e2 q1 q2
      have hq := HH.out.2.2 _ (List.getElem_mem hlt)
      have a0 := hc k hlt 0 _ (by omega) rfl
      have a1 := hc k hlt 1 _ (by omega) rfl
      have a2 := hc k hlt 2 _ (by omega) rfl
      have a3 := hc k hlt 3 _ (by omega) rfl
      have a4 := hc k hlt 4 _ (by omega) rfl
      have a5 := hc k hlt 5 _ (by omega) rfl
      have b0 := hc' k hlt 0 _ (by omega) rfl
      have b1 := hc' k hlt 1 _ (by omega) rfl
      have b2 := hc' k hlt 2 _ (by omega) rfl
      have b3 := hc' k hlt 3 _ (by omega) rfl
      have b4 := hc' k hlt 4 _ (by omega) rfl
      have b5 := hc' k hlt 5 _ (by omega) rfl
      rw [Nat.add_zero] at a0 b0
      have heq := fun W => eq6 hq W
      clear hc hc' hq
      generalize T[k] = p at *
      have j0 : (0 : Int) ≤ (k : Int) := by omega
      have j1 : (k : Int) < (T.length : Int) := by omega
      have hk2 : k < 200 := by omega
      go_wp2_with fail
      go_quiet (fail)
      clear a0 a1 a2 a3 a4 a5 b0 b1 b2 b3 b4 b5 heq
      go_wp2_with fail
      go_roundg (T.length - (k + 1))
      case measure => omega
      case rel => exact ⟨k + 1, by go_num, by omega, by omega, Lib.hid (HK.out.drewN _)⟩
    · obtain rfl : k = T.length := by omega
      go_wp2_with fail
      go_ret
      exact ⟨rfl, HK.out⟩
end Go.Proofs.YtgabidgpngiecaaGreat

namespace Go.Proofs.YtgabidgpngiecaaGreat
open Go.RowKit Go.Proofs.YtgabidgpngiecaaGreatKit Go.Proofs.YtgabidgpngiecaaGreatPlain

theorem range_put {α : Type} (f : Nat → α) (n j : Nat) (x : α) : ((List.range n).map f).set j x = (List.range n).map (fun k => if k = j then x else f k) := by
  apply List.ext_getElem
  · simp
  · intro i h1 h2
    rw [List.getElem_set]
    simp only [List.getElem_map, List.getElem_range]
    by_cases h : j = i
    · subst h; simp
    · rw [if_neg h, if_neg (fun e => h e.symm)]

/-- What a likeness holds: the point, the counts of four lists of rows. -/
def lkG (x : Row) (f : Nat → List Row) (i : Nat) : Value := if i < 3 then .int .i64 (x.x i) else .int .i64 (cntL (f ((i - 3) / 8)) (((i - 3) % 8 : Nat) : Int) : Nat)
def lkA (x : Row) (f : Nat → List Row) : Array Value := ((List.range 35).map (lkG x f)).toArray
theorem lk_get (x : Row) (f : Nat → List Row) {i : Nat} (hi : i < 35) : (lkA x f)[i]? = some (lkG x f i) := by simp [lkA, hi]
theorem lk_cnt (x : Row) (f : Nat → List Row) {q lab : Nat} (hq : q < 4) (hl : lab < 8) : (lkA x f)[3 + q * 8 + lab]? = some (.int .i64 (cntL (f q) (lab : Int) : Nat)) := by
  rw [lk_get x f (by omega), lkG, if_neg (by omega), show (3 + q * 8 + lab - 3) / 8 = q from by omega, show (3 + q * 8 + lab - 3) % 8 = lab from by omega]
theorem cntL_add (T : List Row) (r : Row) (n : Nat) (k : Int) : cntL (T ++ List.replicate n r) k = cntL T k + if r.l = k then n else 0 := by
  unfold cntL
  rw [List.countP_append, List.countP_replicate]
  simp
theorem lk_add (x : Row) (f : Nat → List Row) (r : Row) (n : Nat) {q lab : Nat} (hq : q < 4) (hl : lab < 8) (hr : r.l = (lab : Nat)) :
    (lkA x f).setIfInBounds (3 + q * 8 + lab) (.int .i64 ((cntL (f q) (lab : Int) : Nat) + (n : Nat))) = lkA x (fun k => if k = q then f q ++ List.replicate n r else f k) := by
  unfold lkA
  apply Array.ext'
  rw [Array.toList_setIfInBounds, List.toList_toArray, List.toList_toArray, range_put]
  apply List.map_congr_left
  intro i hi
  have hi35 := List.mem_range.1 hi
  unfold lkG
  by_cases h3 : i < 3
  · rw [if_neg (by omega), if_pos h3, if_pos h3]
  · rw [if_neg h3, if_neg h3]
    dsimp only
    by_cases hqi : (i - 3) / 8 = q
    · rw [if_pos hqi, cntL_add, hqi]
      by_cases hli : (i - 3) % 8 = lab
      · rw [if_pos (by omega), hli, if_pos hr]
        rfl
      · rw [if_neg (by omega), if_neg (by omega), Nat.add_zero]
    · rw [if_neg (by omega), if_neg hqi]
/-- What comes to the list q. -/
def selL (x r : Row) (n q : Nat) : List Row := if q = 0 ∨ r.x (q - 1) = x.x (q - 1) then List.replicate n r else []
def lkAt (w : World) (g : Nat) (x : Row) (f : Nat → List Row) : Prop := Blk w g 106 (lkA x f)
theorem pt_index (x : Row) {k : Nat} (hk : k < 3) (W : World) : (Instr.index 28 (.agg #[.int .i64 x.a, .int .i64 x.b, .int .i64 x.c]) (.int .i64 (k : Int))).run Tryz.prog W = .ok (.int .i64 (x.x k)) W := by
  have hu : Tryz.prog.underlying 28 = some (.array 3 3) := by kernel_rfl
  have : k = 0 ∨ k = 1 ∨ k = 2 := by omega
  rcases this with h | h | h
  all_goals
    subst h
    simp [Row.x, Instr.index, run_underlying hu, asIntOf, go_sem, Tryz.sizeOf3]
/-- Midway: the lists up to k have got theirs. -/
structure LkM (w W : World) (g : Nat) (x r : Row) (f : Nat → List Row) (n k : Nat) : Prop where
  lk : lkAt W g x (fun q => if q ≤ k then f q ++ selL x r n q else f q)
  ro : Blk W w.heap.size 30 #[.int .i64 r.a, .int .i64 r.b, .int .i64 r.c, .int .i64 r.l]
  kp : Keep (fun b => b = g) w W
theorem LkM.new_ {w W W' : World} {g : Nat} {x r : Row} {f : Nat → List Row} {n k : Nat} (h : LkM w W g x r f n k) (hk : Keep No W W') : LkM w W' g x r f n k := ⟨Blk.keep h.lk hk (fun x => x), h.ro.keep hk (fun x => x), h.kp.trans hk (fun _ x => x.elim)⟩
theorem lk_put {w W : World} {g : Nat} {x r : Row} {F G : Nat → List Row} {n q lab : Nat} (h : lkAt W g x F) (hk : Keep (fun b => b = g) w W) (hq : q < 4) (hr : okRow r) (hl : r.l = (lab : Nat)) (hn : n ≤ 500) (hf : (F q).length ≤ 500) (hG : (fun k => if k = q then F q ++ List.replicate n r else F k) = G) :
    Calls Tryz.prog 47 #[.pointer (some ⟨g, 3 + q * 8, none⟩), r.v, .int .i64 (n : Nat)] W fun e w' => e = .returned (.tuple #[]) ∧ lkAt w' g x G ∧ Keep (fun b => b = g) W w' ∧ Keep (fun b => b = g) w w' := by
  have h8 : lab < 8 := by have := hr.2.2.2.2; omega
  refine (ladd_any (o := 3 + q * 8) r n hr h lab hl (lk_cnt x F hq h8) (by omega) (by omega) (by omega) (by have := cntL_le (F q) (lab : Int); omega)).mono ?_
  rintro e w' ⟨he, hb, hk'⟩
  rw [lk_add x F r n hq h8 hl, hG] at hb
  exact ⟨he, hb, hk', hk.trans hk' (fun _ x => .inl x)⟩
theorem LkM.yes {w W : World} {g : Nat} {x r : Row} {f : Nat → List Row} {n k : Nat} (h : LkM w W g x r f n k) (hg : g < w.heap.size) (hk : k < 3) (hr : okRow r) (hn : n ≤ 500) (hf : ∀ q, q < 4 → (f q).length ≤ 500) (he : r.x k = x.x k) :
    Calls Tryz.prog 47 #[.pointer (some ⟨g, 3 + (k + 1) * 8, none⟩), r.v, .int .i64 (n : Nat)] W fun e w' => e = .returned (.tuple #[]) ∧ LkM w w' g x r f n (k + 1) := by
  obtain ⟨lab, hl⟩ : ∃ lab : Nat, r.l = lab := ⟨r.l.toNat, by have := hr.2.2.2.1; omega⟩
  refine (lk_put (q := k + 1) h.lk h.kp (by omega) hr hl hn (by rw [if_neg (by omega)]; exact hf _ (by omega)) rfl).mono ?_
  rintro e w' ⟨e1, e2, e3, e4⟩
  refine ⟨e1, ?_, h.ro.keep e3 (by omega), e4⟩
  have e5 : (fun q => if q = k + 1 then (if k + 1 ≤ k then f (k + 1) ++ selL x r n (k + 1) else f (k + 1)) ++ List.replicate n r else if q ≤ k then f q ++ selL x r n q else f q) = fun q => if q ≤ k + 1 then f q ++ selL x r n q else f q := by
    funext q
    by_cases h1 : q = k + 1
    · subst h1
      rw [if_pos rfl, if_neg (by omega), if_pos (Nat.le_refl _), selL, if_pos (.inr (by rw [Nat.add_sub_cancel]; exact he))]
    · rw [if_neg h1]
      by_cases h2 : q ≤ k
      · rw [if_pos h2, if_pos (by omega)]
      · rw [if_neg h2, if_neg (by omega)]
  rw [e5] at e2
  exact e2
theorem LkM.no {w W : World} {g : Nat} {x r : Row} {f : Nat → List Row} {n k : Nat} (h : LkM w W g x r f n k) (he : r.x k ≠ x.x k) : LkM w W g x r f n (k + 1) := by
  refine ⟨?_, h.ro, h.kp⟩
  have e5 : (fun q => if q ≤ k then f q ++ selL x r n q else f q) = fun q => if q ≤ k + 1 then f q ++ selL x r n q else f q := by
    funext q
    by_cases h1 : q = k + 1
    · subst h1
      rw [if_neg (by omega), if_pos (Nat.le_refl _), selL, if_neg (by rw [Nat.add_sub_cancel]; omega), List.append_nil]
    · by_cases h2 : q ≤ k
      · rw [if_pos h2, if_pos (by omega)]
      · rw [if_neg h2, if_neg (by omega)]
  rw [← e5]
  exact h.lk
theorem LkM.first {w W : World} {g : Nat} {x r : Row} {f : Nat → List Row} {n : Nat} (h : lkAt W g x f) (hro : Blk W w.heap.size 30 #[.int .i64 r.a, .int .i64 r.b, .int .i64 r.c, .int .i64 r.l]) (hkp : Keep (fun b => b = g) w W) (hg : g < w.heap.size) (hr : okRow r) (hn : n ≤ 500) (hf : ∀ q, q < 4 → (f q).length ≤ 500) :
    Calls Tryz.prog 47 #[.pointer (some ⟨g, 3, none⟩), r.v, .int .i64 (n : Nat)] W fun e w' => e = .returned (.tuple #[]) ∧ LkM w w' g x r f n 0 := by
  obtain ⟨lab, hl⟩ : ∃ lab : Nat, r.l = lab := ⟨r.l.toNat, by have := hr.2.2.2.1; omega⟩
  have h0 := lk_put (q := 0) h hkp (by omega) hr hl hn (hf 0 (by omega)) rfl
  rw [Nat.zero_mul, Nat.add_zero] at h0
  refine h0.mono ?_
  rintro e w' ⟨e1, e2, e3, e4⟩
  refine ⟨e1, ?_, hro.keep e3 (by omega), e4⟩
  have e5 : (fun q => if q = 0 then f 0 ++ List.replicate n r else f q) = fun q => if q ≤ 0 then f q ++ selL x r n q else f q := by
    funext q
    by_cases h1 : q = 0
    · subst h1
      rw [if_pos rfl, if_pos (Nat.le_refl _), selL, if_pos (.inl rfl)]
    · rw [if_neg h1, if_neg (by omega)]
  rw [e5] at e2
  exact e2
theorem lk_x {w : World} {g : Nat} {x : Row} {f : Nat → List Row} (h : lkAt w g x f) {i : Nat} (hi : i < 3) : w.cell? ⟨g, i, none⟩ = some (.int .i64 (x.x i)) := by
  rw [Blk.cell h i, lk_get x f (by omega), lkG, if_pos hi]
set_option maxHeartbeats 1000000 in
set_option maxRecDepth 100000 in
theorem lkadd_any {w : World} {g : Nat} {x r : Row} {f : Nat → List Row} {n : Nat} (h : lkAt w g x f) (hr : okRow r) (hn : n ≤ 500) (hf : ∀ q, q < 4 → (f q).length ≤ 500) :
    Calls Tryz.prog 124 #[.pointer (some ⟨g, 0, none⟩), r.v, .int .i64 (n : Nat)] w fun e w' => e = .returned (.tuple #[]) ∧ lkAt w' g x (fun q => if q ≤ 3 then f q ++ selL x r n q else f q) ∧ Keep (fun b => b = g) w w' := by
  have hg : g < w.heap.size := Blk.lt h
  have B0 := (Blk.new w 30 #[.int .i64 r.a, .int .i64 r.b, .int .i64 r.c, .int .i64 r.l])
  have HF := Lib.hid (show ∀ W, Keep No (w.alloc (.cells #[.int .i64 r.a, .int .i64 r.b, .int .i64 r.c, .int .i64 r.l] 30)) W → Calls Tryz.prog 47 #[.pointer (some ⟨g, 3, none⟩), r.v, .int .i64 (n : Nat)] W fun e w' => e = .returned (.tuple #[]) ∧ LkM w w' g x r f n 0 from
    fun W hW => LkM.first (Blk.keep (Blk.alloc h _) hW (fun x => x)) (B0.keep hW (fun x => x)) (((Keep.refl (fun b => b = g) w).alloc _).trans hW (fun _ x => x.elim)) hg hr hn hf)
  have HY := Lib.hid (show ∀ W k, LkM w W g x r f n k → k < 3 → r.x k = x.x k → Calls Tryz.prog 47 #[.pointer (some ⟨g, 3 + (k + 1) * 8, none⟩), r.v, .int .i64 (n : Nat)] W fun e w' => e = .returned (.tuple #[]) ∧ LkM w w' g x r f n (k + 1) from
    fun W k hW hk he => hW.yes hg hk hr hn hf he)
  have f0 := B0.cell 0
  have f1 := B0.cell 1
  have f2 := B0.cell 2
  have f3 := B0.cell 3
  simp only [List.getElem?_toArray, List.getElem?_cons_zero, List.getElem?_cons_succ] at f0 f1 f2 f3
  clear h B0 hf hr hg
  unfold Row.v at HF HY ⊢
  go_enter Tryz.func124, Tryz.ntmps124
  go_wp2_with fail
  generalize w.alloc (.cells #[.int .i64 r.a, .int .i64 r.b, .int .i64 r.c, .int .i64 r.l] 30) = w0 at *
  go_region_law (go_simp; go_at_call 47; refine (HF.out _ ((Keep.refl No w0).drew)).mono ?_; rintro e w1 ⟨rfl, h1⟩; have H1 := Lib.hid h1; clear h1)
  have HPT := Lib.hid (fun k (hk : k < 3) W => pt_index x hk W)
  have x0 := lk_x H1.out.lk (i := 0) (by omega)
  have x1 := lk_x H1.out.lk (i := 1) (by omega)
  have x2 := lk_x H1.out.lk (i := 2) (by omega)
  rw [show x.x 0 = x.a from rfl] at x0
  rw [show x.x 1 = x.b from rfl] at x1
  rw [show x.x 2 = x.c from rfl] at x2
  clear HF f0 f1 f2 f3
  go_wp2_with fail
  clear x0 x1 x2
  go_loopg [18] 3 (fun kx s18 wr => ∃ k : Nat, s18 = .int .i64 k ∧ k ≤ 3 ∧ 3 ≤ k + kx ∧ Hid (LkM w wr g x r f n k))
  case atStart => exact ⟨0, rfl, Nat.zero_le _, Nat.le_refl _, H1⟩
  case round =>
    clear H1
    obtain ⟨k, rfl, hk, hkx, HS⟩ := hrel
    by_cases h3 : k < 3
    · have hix := HPT.out k h3
      have f0 := HS.out.ro.cell 0
      have f1 := HS.out.ro.cell 1
      have f2 := HS.out.ro.cell 2
      have f3 := HS.out.ro.cell 3
      simp only [List.getElem?_toArray, List.getElem?_cons_zero, List.getElem?_cons_succ] at f0 f1 f2 f3
      have fk : wr.cell? ⟨w.heap.size, k, none⟩ = some (.int .i64 (r.x k)) := by
        rw [HS.out.ro.cell k, List.getElem?_toArray]
        exact row_cell r h3
      have j0 : (0 : Int) ≤ (k : Int) := by omega
      have j1 : (k : Int) < 3 := by omega
      have HNO := Lib.hid (fun h : r.x k ≠ x.x k => HS.out.no h)
      have HYE := Lib.hid (fun (h : r.x k = x.x k) W (hW : Keep No wr W) => HY.out W k (HS.out.new_ hW) h3 h)
      by_cases heq : r.x k = x.x k
      · have HC := Lib.hid (HYE.out heq)
        have d1 : (r.x k == x.x k) = true := by rw [heq]; simp
        have d2 : decide (r.x k = x.x k) = true := decide_eq_true heq
        generalize r.x k = rk at *
        generalize x.x k = xk at *
        clear heq HNO HYE
        rw [show 3 + (k + 1) * 8 = 11 + k * 8 from by omega] at HC
        go_wp2_with fail
        go_region_law (go_simp; go_at_call 47; go_loud (refine (HC.out _ ((Keep.refl No wr).drew)).mono ?_; rintro e w1 ⟨rfl, h1⟩; have HN := Lib.hid h1; clear h1))
        all_goals
          go_wp2_with fail
          go_roundg (3 - (k + 1))
          case measure => omega
          case rel => exact ⟨k + 1, by go_num, by omega, by omega, HN⟩
      · have HC := Lib.hid (HNO.out heq)
        have d1 : (r.x k == x.x k) = false := by rw [beq_eq_false_iff_ne]; exact heq
        have d2 : decide (r.x k = x.x k) = false := decide_eq_false heq
        generalize r.x k = rk at *
        generalize x.x k = xk at *
        clear heq HNO HYE f0 f1 f2 f3
        go_wp2_with fail
        go_roundg (3 - (k + 1))
        case measure => omega
        case rel => exact ⟨k + 1, by go_num, by omega, by omega, HC⟩
    · obtain rfl : k = 3 := by omega
      go_wp2_with fail
      go_end0
      exact ⟨rfl, HS.out.lk, HS.out.kp⟩
end Go.Proofs.YtgabidgpngiecaaGreat

namespace Go.Proofs.YtgabidgpngiecaaGreat
open Go.RowKit Go.Proofs.YtgabidgpngiecaaGreatKit Go.Proofs.YtgabidgpngiecaaGreatPlain

theorem method_lkadd (a : Addr) (w : World) : (method 284 103 (.pointer (some a)) "amnesty/learn.add").run Tryz.prog w = .ok (124, .pointer (some a)) w := by kernel_rfl
/-- The lists of a likeness: all rows, and those that are equal in each column. -/
def fL (x : Row) (T : List Row) (q : Nat) : List Row := if q = 0 then T else T.filter fun r => decide (r.x (q - 1) = x.x (q - 1))
theorem fL_add (x : Row) (T : List Row) (r : Row) (n q : Nat) : fL x T q ++ selL x r n q = fL x (T ++ List.replicate n r) q := by
  unfold fL selL
  by_cases h : q = 0
  · rw [if_pos h, if_pos (.inl h), if_pos h]
  · rw [if_neg h, if_neg h, List.filter_append]
    congr 1
    by_cases h2 : r.x (q - 1) = x.x (q - 1)
    · rw [if_pos (.inr h2), List.filter_eq_self.2]
      intro s hs
      rw [(List.mem_replicate.1 hs).2]
      exact decide_eq_true h2
    · rw [if_neg (fun h' => h'.elim h h2), List.filter_eq_nil_iff.2]
      intro s hs
      rw [(List.mem_replicate.1 hs).2]
      simpa using h2
theorem fL_len (x : Row) (T : List Row) (q : Nat) : (fL x T q).length ≤ T.length := by
  unfold fL
  split
  · exact Nat.le_refl _
  · exact List.length_filter_le _ _
theorem fL_perm {x : Row} {T U : List Row} (h : T.Perm U) (q : Nat) : (fL x T q).Perm (fL x U q) := by
  unfold fL
  split
  · exact h
  · exact h.filter _
theorem lkA_congr {x : Row} {f f' : Nat → List Row} (h : ∀ q, q < 4 → f q = f' q) : lkA x f = lkA x f' := by
  unfold lkA
  congr 1
  apply List.map_congr_left
  intro i hi
  have := List.mem_range.1 hi
  unfold lkG
  rw [h _ (by omega)]
theorem LkAdd {w W : World} {g : Nat} {x : Row} {T : List Row} {p : Row × Nat} (h : lkAt w g x (fL x T)) (hT : T.length ≤ 500) (hp : 0 < p.2 ∧ okRow p.1) (hp2 : p.2 ≤ 500) (hk : Keep No w W) :
    Calls Tryz.prog 124 #[.pointer (some ⟨g, 0, none⟩), p.1.v, .int .i64 (p.2 : Nat)] W fun e w' => e = .returned (.tuple #[]) ∧ lkAt w' g x (fL x (T ++ List.replicate p.2 p.1)) ∧ Keep (fun b => b = g) w w' := by
  refine (lkadd_any (Blk.keep h hk (fun x => x)) hp.2 hp2 (fun q _ => Nat.le_trans (fL_len x T q) hT)).mono ?_
  rintro e w' ⟨he, hb, hk'⟩
  refine ⟨he, ?_, (hk.mono (fun _ x => x.elim)).trans hk' (fun _ x => .inl x)⟩
  unfold lkAt at hb ⊢
  rw [lkA_congr (f' := fL x (T ++ List.replicate p.2 p.1)) (fun q hq => by rw [if_pos (by omega), fL_add])] at hb
  exact hb
set_option maxHeartbeats 2000000 in
set_option maxRecDepth 100000 in
theorem telllk_any {B : Nat} {w : World} {g : Nat} {v : Value} {x : Row} {L : List (Row × Nat)} (hC : Cnt B w v L) (hS : lkAt w g x (fL x [])) (hne : ∀ k, v.ownBlock = some k → k ≠ g) (hl : (expand L).length ≤ 500) (hok : ∀ p ∈ L, 0 < p.2 ∧ okRow p.1) :
    Calls Tryz.prog 32 #[.iface 103 (.pointer (some ⟨g, 0, none⟩)), v] w fun e w' => e = .returned (.tuple #[]) ∧ lkAt w' g x (fL x (expand L)) ∧ Keep (fun b => b = g) w w' := by
  have hL : L.length ≤ 500 := Nat.le_trans (expand_len hok) hl
  obtain ⟨A, c, rfl, -⟩ := own_shape hC
  have HC := Lib.hid hC
  have HS := Lib.hid hS
  clear hC hS
  go_enter Tryz.func32, Tryz.ntmps32
  go_wp2_with fail
  go_loopw [8] (fun v8 wr => ∃ k : Nat, k ≤ L.length ∧ v8 = .int .i64 k ∧ Hid (lkAt wr g x (fL x (expand (L.take k)))) ∧ Hid (Keep (fun b => b = g) w wr)) (fun i _ => L.length - (intOf i).toNat)
  case atStart => exact ⟨0, Nat.zero_le _, rfl, HS, Lib.hid (Keep.refl _ w)⟩
  case round =>
    clear HS
    obtain ⟨k, hk, rfl, hS, hK⟩ := hrel
    by_cases hlt : k < L.length
    · obtain ⟨g', rfl, hcell⟩ := (Cnt.keep HC.out hK.out (fun x hx e => hne x hx e)).at_ hlt
      have e0 := hcell 0 _ rfl
      rw [Nat.add_zero] at e0
      have e1 := hcell 1 _ rfl
      have e2 := hcell 2 _ rfl
      have e3 := hcell 3 _ rfl
      have e4 := hcell 4 _ rfl
      have hmem := Lib.hid (hok _ (List.getElem_mem hlt))
      have htm := Lib.hid (times_le (List.getElem_mem hlt))
      have hex := Lib.hid (List.take_append_getElem hlt)
      clear hcell
      generalize L[k] = p at *
      have i0 : (0 : Int) ≤ (k : Int) := by omega
      have i1 : (k : Int) < (L.length : Int) := by omega
      have HE := Lib.hid (show expand (L.take k) ++ List.replicate p.2 p.1 = expand (L.take (k + 1)) from by
        rw [← hex.out, expand_append]
        simp [expand])
      have hT : (expand (L.take k)).length ≤ 500 := by
        have h1 : L = L.take k ++ L.drop k := (List.take_append_drop _ _).symm
        rw [h1, expand_append, List.length_append] at hl
        omega
      have HA := Lib.hid (fun W (hW : Keep No wr W) => LkAdd (W := W) hS.out hT hmem.out (by have := htm.out; omega) hW)
      have HK := Lib.hid hK.out
      have hm := method_lkadd
      unfold Row.v at HA
      clear hT hS htm
      go_wp2_with (go_at_call 124; refine (HA.out _ ((Keep.refl No wr).alloc _)).mono ?_; rintro e w' ⟨rfl, hs', hk'⟩; have HS' := Lib.hid (show _ ∧ _ from ⟨hs', hk'⟩); clear hs' hk')
      go_roundw
      case rel => exact ⟨k + 1, by omega, by go_num, Lib.hid (HE.out ▸ HS'.out.1), Lib.hid (HK.out.trans HS'.out.2 (fun _ x => .inl x))⟩
      case measure => simp [intOf]; omega
    · have hkL : k = L.length := by omega
      subst hkL
      have hS' := Lib.hid (show lkAt wr g x (fL x (expand L)) from by have := hS.out; rwa [List.take_length] at this)
      clear hS
      have i1 : (L.length : Int) ≤ (L.length : Int) := Int.le_refl _
      go_wp2
      go_end0
      exact ⟨rfl, hS'.out, hK.out⟩


end Go.Proofs.YtgabidgpngiecaaGreat

namespace Go.Proofs.YtgabidgpngiecaaGreat
open Go.RowKit Go.Proofs.YtgabidgpngiecaaGreatKit Go.Proofs.YtgabidgpngiecaaGreatPlain

/-- The likeliest label so far, and its fraction. -/
structure GS where
  best : Int
  num : Int
  den : Int
def pA (c : Nat → Nat → Nat) (i : Nat) : Nat → Int
  | 0 => (c 0 i : Nat)
  | j + 1 => pA c i j * ((c (j + 1) i : Nat) + 1)
def pB (c : Nat → Nat → Nat) (i : Nat) : Nat → Int
  | 0 => 1
  | j + 1 => pB c i j * ((c 0 i : Nat) + 2)
def gStep (c : Nat → Nat → Nat) (s : GS) (i : Nat) : GS :=
  if c 0 i = 0 then s else if s.best < 0 ∨ s.num * pB c i 3 < pA c i 3 * s.den then ⟨i, pA c i 3, pB c i 3⟩ else s
def gTo (c : Nat → Nat → Nat) : Nat → GS
  | 0 => ⟨-1, 0, 1⟩
  | k + 1 => gStep c (gTo c k) k
def lkC (x : Row) (T : List Row) (q i : Nat) : Nat := cntL (fL x T q) (i : Int)
theorem lkC_perm {x : Row} {T U : List Row} (h : T.Perm U) : lkC x T = lkC x U := by
  funext q i
  unfold lkC cntL
  exact (fL_perm h q).countP_eq _
theorem lkC_le {x : Row} {T : List Row} (h : T.length ≤ 500) (q i : Nat) : lkC x T q i ≤ 500 := Nat.le_trans (cntL_le _ _) (Nat.le_trans (fL_len x T q) h)
section
variable {c : Nat → Nat → Nat}
theorem pA_bd (hc : ∀ q i, c q i ≤ 500) (i : Nat) : (0 ≤ pA c i 0 ∧ pA c i 0 ≤ 500) ∧ (0 ≤ pA c i 1 ∧ pA c i 1 ≤ 250500) ∧ (0 ≤ pA c i 2 ∧ pA c i 2 ≤ 125500500) ∧ (0 ≤ pA c i 3 ∧ pA c i 3 ≤ 62875750500) := by
  have h0 := hc 0 i
  have h1 := hc 1 i
  have h2 := hc 2 i
  have h3 := hc 3 i
  have a0 : 0 ≤ pA c i 0 ∧ pA c i 0 ≤ 500 := by rw [pA]; omega
  have a1 : 0 ≤ pA c i 1 ∧ pA c i 1 ≤ 500 * 501 := by rw [pA]; exact mul_in (Y := 501) a0.1 a0.2 (by omega) (by rw [Nat.zero_add]; omega)
  have a2 : 0 ≤ pA c i 2 ∧ pA c i 2 ≤ 250500 * 501 := by rw [pA]; exact mul_in (Y := 501) a1.1 (by omega) (by omega) (by show (c 2 i : Int) + 1 ≤ 501; omega)
  have a3 : 0 ≤ pA c i 3 ∧ pA c i 3 ≤ 125500500 * 501 := by rw [pA]; exact mul_in (Y := 501) a2.1 (by omega) (by omega) (by show (c 3 i : Int) + 1 ≤ 501; omega)
  omega
theorem pB_bd (hc : ∀ q i, c q i ≤ 500) (i : Nat) : (1 ≤ pB c i 0 ∧ pB c i 0 ≤ 1) ∧ (0 ≤ pB c i 1 ∧ pB c i 1 ≤ 502) ∧ (0 ≤ pB c i 2 ∧ pB c i 2 ≤ 252004) ∧ (0 ≤ pB c i 3 ∧ pB c i 3 ≤ 126506008) := by
  have h0 := hc 0 i
  have a0 : 0 ≤ pB c i 0 ∧ pB c i 0 ≤ 1 := by rw [pB]; omega
  have a1 : 0 ≤ pB c i 1 ∧ pB c i 1 ≤ 1 * 502 := by rw [pB]; exact mul_in a0.1 a0.2 (by omega) (by omega)
  have a2 : 0 ≤ pB c i 2 ∧ pB c i 2 ≤ 502 * 502 := by rw [pB]; exact mul_in a1.1 (by omega) (by omega) (by omega)
  have a3 : 0 ≤ pB c i 3 ∧ pB c i 3 ≤ 252004 * 502 := by rw [pB]; exact mul_in a2.1 (by omega) (by omega) (by omega)
  have a4 : 1 ≤ pB c i 0 := by rw [pB]; omega
  omega
def GBd (s : GS) : Prop := -1 ≤ s.best ∧ s.best < 8 ∧ 0 ≤ s.num ∧ s.num ≤ 62875750500 ∧ 0 ≤ s.den ∧ s.den ≤ 126506008
theorem GBd.step (hc : ∀ q i, c q i ≤ 500) {s : GS} (h : GBd s) {i : Nat} (hi : i < 8) : GBd (gStep c s i) := by
  have ha := pA_bd hc i
  have hb := pB_bd hc i
  unfold gStep
  split
  · exact h
  · split
    · exact ⟨by show (-1 : Int) ≤ (i : Nat); omega, by show ((i : Nat) : Int) < 8; omega, ha.2.2.2.1, ha.2.2.2.2, hb.2.2.2.1, hb.2.2.2.2⟩
    · exact h
theorem gTo_bd (hc : ∀ q i, c q i ≤ 500) : ∀ k, k ≤ 8 → GBd (gTo c k)
  | 0, _ => ⟨by show (-1 : Int) ≤ -1; omega, by show (-1 : Int) < 8; omega, by show (0 : Int) ≤ 0; omega, by show (0 : Int) ≤ 62875750500; omega, by show (0 : Int) ≤ 1; omega, by show (1 : Int) ≤ 126506008; omega⟩
  | k + 1, hk => (gTo_bd hc k (by omega)).step hc (by omega)
/-- No product is too great. -/
theorem part_fit (hc : ∀ q i, c q i ≤ 500) (i : Nat) {j : Nat} (hj : j < 3) : IntKind.i64.wrap ((c (j + 1) i : Int) + 1) = (c (j + 1) i : Int) + 1 ∧ IntKind.i64.wrap (pA c i j * ((c (j + 1) i : Int) + 1)) = pA c i j * ((c (j + 1) i : Int) + 1) ∧ IntKind.i64.wrap ((c 0 i : Int) + 2) = (c 0 i : Int) + 2 ∧ IntKind.i64.wrap (pB c i j * ((c 0 i : Int) + 2)) = pB c i j * ((c 0 i : Int) + 2) := by
  have h0 := hc 0 i
  have h1 := hc (j + 1) i
  have ha := pA_bd hc i
  have hb := pB_bd hc i
  have e1 : pA c i (j + 1) = pA c i j * ((c (j + 1) i : Int) + 1) := rfl
  have e2 : pB c i (j + 1) = pB c i j * ((c 0 i : Int) + 2) := rfl
  rw [← e1, ← e2]
  refine ⟨IntWalk.i64_in _ ⟨by omega, by omega⟩, IntWalk.i64_in _ ?_, IntWalk.i64_in _ ⟨by omega, by omega⟩, IntWalk.i64_in _ ?_⟩
  · have : j = 0 ∨ j = 1 ∨ j = 2 := by omega
    rcases this with rfl | rfl | rfl
    · rw [Nat.zero_add]; exact ⟨by omega, by omega⟩
    · rw [show 1 + 1 = 2 from rfl]; exact ⟨by omega, by omega⟩
    · rw [show 2 + 1 = 3 from rfl]; exact ⟨by omega, by omega⟩
  · have : j = 0 ∨ j = 1 ∨ j = 2 := by omega
    rcases this with rfl | rfl | rfl
    · rw [Nat.zero_add]; exact ⟨by omega, by omega⟩
    · rw [show 1 + 1 = 2 from rfl]; exact ⟨by omega, by omega⟩
    · rw [show 2 + 1 = 3 from rfl]; exact ⟨by omega, by omega⟩
theorem end_fit (hc : ∀ q i, c q i ≤ 500) {s : GS} (h : GBd s) (i : Nat) : IntKind.i64.wrap (pA c i 3 * s.den) = pA c i 3 * s.den ∧ IntKind.i64.wrap (s.num * pB c i 3) = s.num * pB c i 3 := by
  have ha := (pA_bd hc i).2.2.2
  have hb := (pB_bd hc i).2.2.2
  have m1 := mul_in ha.1 ha.2 h.2.2.2.2.1 h.2.2.2.2.2
  have m2 := mul_in h.2.2.1 h.2.2.2.1 hb.1 hb.2
  exact ⟨IntWalk.i64_in _ ⟨by omega, by omega⟩, IntWalk.i64_in _ ⟨by omega, by omega⟩⟩
end
end Go.Proofs.YtgabidgpngiecaaGreat

namespace Go.Proofs.YtgabidgpngiecaaGreat
open Go.RowKit Go.Proofs.YtgabidgpngiecaaGreatKit Go.Proofs.YtgabidgpngiecaaGreatPlain

instance (x : Row) : Decidable (okPt x) := inferInstanceAs (Decidable (_ ∧ _))
/-- What Guess gives. -/
def guessF (x : Row) (l : List Row) : Int := if okPt x ∧ l.length ≠ 0 then (gTo (lkC x l) 8).best else 0
def guessE (x : Row) (l : List Row) : Int := if ¬ okPt x then 1 else if l.length = 0 then 3 else 0
/-- In the midst of Guess. -/
structure GuS (w W : World) (g : Nat) (x : Row) (T : List Row) : Prop where
  lk : lkAt W g x (fL x T)
  kp : Keep No w W
theorem GuS.new_ {w W W' : World} {g : Nat} {x : Row} {T : List Row} (h : GuS w W g x T) (hk : Keep No W W') : GuS w W' g x T := ⟨Blk.keep h.lk hk (fun x => x), h.kp.trans hk (fun _ x => x.elim)⟩
theorem GuS.cnt {w W : World} {g : Nat} {x : Row} {T : List Row} (h : GuS w W g x T) {q i : Nat} (hq : q < 4) (hi : i < 8) : W.cell? ⟨g, 3 + q * 8 + i, none⟩ = some (.int .i64 (lkC x T q i : Nat)) := by
  rw [Blk.cell h.lk, lk_cnt x _ hq hi]
  rfl
set_option maxHeartbeats 1000000 in
set_option maxRecDepth 100000 in
theorem guess_any {base : Nat} {w : World} {mb b : Nat} {l : List Row} (h : Mdl base w mb b l) (x : Row) :
    Calls Tryz.prog 15 #[.pointer (some ⟨mb, 0, none⟩), ptV x] w fun e w' => e = .returned (.tuple #[.int .i64 (guessF x l), .int .i64 (guessE x l)]) ∧ Keep No w w' := by
  have H := Lib.hid h
  have HLL := Lib.hid h.len
  have B0 := Lib.hid (Blk.new w 28 #[.int .i64 x.a, .int .i64 x.b, .int .i64 x.c])
  have K0 := Lib.hid ((Keep.refl No w).alloc (.cells #[.int .i64 x.a, .int .i64 x.b, .int .i64 x.c] 28))
  have HI := Lib.hid (fun W => inside_any x.a x.b x.c W)
  have HSZ := Lib.hid (show (w.alloc (.cells #[.int .i64 x.a, .int .i64 x.b, .int .i64 x.c] 28)).heap.size = w.heap.size + 1 from by simp)
  have HF := Lib.hid (show (¬ okPt x → guessF x l = 0 ∧ guessE x l = 1) ∧ (okPt x → l.length = 0 → guessF x l = 0 ∧ guessE x l = 3) ∧ (okPt x → l.length ≠ 0 → guessF x l = (gTo (lkC x l) 8).best ∧ guessE x l = 0) from by
    unfold guessF guessE
    refine ⟨fun h => ⟨if_neg (fun h2 => h h2.1), if_pos h⟩, fun h h2 => ⟨if_neg (fun h3 => h3.2 h2), by rw [if_neg (fun h3 => h3 h), if_pos h2]⟩, fun h h2 => ⟨if_pos ⟨h, h2⟩, by rw [if_neg (fun h3 => h3 h), if_neg h2]⟩⟩)
  have f0 := B0.out.cell 0
  have f1 := B0.out.cell 1
  have f2 := B0.out.cell 2
  simp only [List.getElem?_toArray, List.getElem?_cons_zero, List.getElem?_cons_succ] at f0 f1 f2
  clear h
  unfold ptV
  obtain ⟨gf, hgf⟩ : ∃ gf, gf = guessF x l := ⟨_, rfl⟩
  obtain ⟨ge, hge⟩ : ∃ ge, ge = guessE x l := ⟨_, rfl⟩
  rw [← hgf, ← hge] at HF ⊢
  clear hgf hge
  go_enter Tryz.func15, Tryz.ntmps15
  go_wp2_with fail
  generalize w.alloc (.cells #[.int .i64 x.a, .int .i64 x.b, .int .i64 x.c] 28) = w0 at *
  clear f0 f1 f2
  refine (HI.out _).mono ?_
  rintro e w1 ⟨rfl, hk1⟩
  have HB1 := Lib.hid (B0.out.keep hk1 (fun x => x))
  have HK1 := Lib.hid (K0.out.trans hk1 (fun _ x => x.elim))
  have HS1 := Lib.hid (show w.heap.size + 1 ≤ w1.heap.size from by have := hk1.size; rw [HSZ.out] at this; exact this)
  clear hk1 B0 K0 HI HSZ
  by_cases hp : okPt x
  · have hd : decide (okX x.a ∧ okX x.b ∧ okX x.c) = true := decide_eq_true hp
    have HPx := Lib.hid hp
    have HLen := Lib.hid (mlen_any (H.out.new_ HK1.out))
    rw [hd]
    clear hd hp
    go_wp2_with fail
    refine HLen.out.mono ?_
    rintro e w2 ⟨rfl, rfl⟩
    clear HLen
    by_cases h0 : l.length = 0
    · have hd : ((l.length : Int) == 0) = true := by rw [h0]; rfl
      have hd2 : decide ((l.length : Int) = 0) = true := decide_eq_true (by omega)
      have HR := Lib.hid (HF.out.2.1 HPx.out h0)
      clear h0
      go_wp2_with fail
      go_ret2
      exact ⟨ret_pair HR.out.1.symm HR.out.2.symm, HK1.out⟩
    have hd : ((l.length : Int) == 0) = false := by rw [beq_eq_false_iff_ne]; omega
    have hd2 : decide ((l.length : Int) = 0) = false := decide_eq_false (by omega)
    have HR := Lib.hid (HF.out.2.2 HPx.out h0)
    have f0 := HB1.out.cell 0
    have f1 := HB1.out.cell 1
    have f2 := HB1.out.cell 2
    simp only [List.getElem?_toArray, List.getElem?_cons_zero, List.getElem?_cons_succ] at f0 f1 f2
    clear h0
    have HL0 := Lib.hid (Blk.new w1 106 #[.int .i64 x.a, .int .i64 x.b, .int .i64 x.c, .int .i64 0, .int .i64 0, .int .i64 0, .int .i64 0, .int .i64 0, .int .i64 0, .int .i64 0, .int .i64 0, .int .i64 0, .int .i64 0, .int .i64 0, .int .i64 0, .int .i64 0, .int .i64 0, .int .i64 0, .int .i64 0, .int .i64 0, .int .i64 0, .int .i64 0, .int .i64 0, .int .i64 0, .int .i64 0, .int .i64 0, .int .i64 0, .int .i64 0, .int .i64 0, .int .i64 0, .int .i64 0, .int .i64 0, .int .i64 0, .int .i64 0, .int .i64 0])
    have HK2 := Lib.hid ((Keep.refl No w1).alloc (.cells #[.int .i64 x.a, .int .i64 x.b, .int .i64 x.c, .int .i64 0, .int .i64 0, .int .i64 0, .int .i64 0, .int .i64 0, .int .i64 0, .int .i64 0, .int .i64 0, .int .i64 0, .int .i64 0, .int .i64 0, .int .i64 0, .int .i64 0, .int .i64 0, .int .i64 0, .int .i64 0, .int .i64 0, .int .i64 0, .int .i64 0, .int .i64 0, .int .i64 0, .int .i64 0, .int .i64 0, .int .i64 0, .int .i64 0, .int .i64 0, .int .i64 0, .int .i64 0, .int .i64 0, .int .i64 0, .int .i64 0, .int .i64 0] 106))
    go_wp2_with fail
    clear f0 f1 f2
    have HLK := Lib.hid (show lkAt (w1.alloc (.cells #[.int .i64 x.a, .int .i64 x.b, .int .i64 x.c, .int .i64 0, .int .i64 0, .int .i64 0, .int .i64 0, .int .i64 0, .int .i64 0, .int .i64 0, .int .i64 0, .int .i64 0, .int .i64 0, .int .i64 0, .int .i64 0, .int .i64 0, .int .i64 0, .int .i64 0, .int .i64 0, .int .i64 0, .int .i64 0, .int .i64 0, .int .i64 0, .int .i64 0, .int .i64 0, .int .i64 0, .int .i64 0, .int .i64 0, .int .i64 0, .int .i64 0, .int .i64 0, .int .i64 0, .int .i64 0, .int .i64 0, .int .i64 0] 106)) w1.heap.size x (fL x []) from HL0.out)
    have HSz := Lib.hid (show (w1.alloc (.cells #[.int .i64 x.a, .int .i64 x.b, .int .i64 x.c, .int .i64 0, .int .i64 0, .int .i64 0, .int .i64 0, .int .i64 0, .int .i64 0, .int .i64 0, .int .i64 0, .int .i64 0, .int .i64 0, .int .i64 0, .int .i64 0, .int .i64 0, .int .i64 0, .int .i64 0, .int .i64 0, .int .i64 0, .int .i64 0, .int .i64 0, .int .i64 0, .int .i64 0, .int .i64 0, .int .i64 0, .int .i64 0, .int .i64 0, .int .i64 0, .int .i64 0, .int .i64 0, .int .i64 0, .int .i64 0, .int .i64 0, .int .i64 0] 106)).heap.size = w1.heap.size + 1 from by simp)
    clear HL0
    generalize w1.alloc (.cells #[.int .i64 x.a, .int .i64 x.b, .int .i64 x.c, .int .i64 0, .int .i64 0, .int .i64 0, .int .i64 0, .int .i64 0, .int .i64 0, .int .i64 0, .int .i64 0, .int .i64 0, .int .i64 0, .int .i64 0, .int .i64 0, .int .i64 0, .int .i64 0, .int .i64 0, .int .i64 0, .int .i64 0, .int .i64 0, .int .i64 0, .int .i64 0, .int .i64 0, .int .i64 0, .int .i64 0, .int .i64 0, .int .i64 0, .int .i64 0, .int .i64 0, .int .i64 0, .int .i64 0, .int .i64 0, .int .i64 0, .int .i64 0] 106) = w2 at *
    obtain ⟨g, hg⟩ : ∃ g, g = w1.heap.size := ⟨_, rfl⟩
    rw [← hg] at HLK HSz ⊢
    have HGE := Lib.hid (show w.heap.size < g from by have := HS1.out; omega)
    have HSo := Lib.hid (sorted_any (H.out.new_ (HK1.out.trans HK2.out (fun _ x => x.elim))))
    have HK0 := Lib.hid (HK1.out.trans HK2.out (fun _ x => x.elim))
    clear hg HB1 HS1 HK1 HK2 H
    refine HSo.out.mono ?_
    rintro e w3 ⟨v, L, rfl, hC, -, hp, h5, hok, hk3⟩
    have HT := Lib.hid (telllk_any (g := g) (x := x) hC (Blk.keep HLK.out hk3 (fun x => x)) (fun k e e2 => by have := (hC.lt k e).1; have := HSz.out; omega) (by rw [hp.length_eq]; exact HLL.out) hok)
    have HK3 := Lib.hid (HK0.out.trans hk3 (fun _ x => x.elim))
    have HPE := Lib.hid hp
    clear hC hp h5 hok hk3 HSo HLK HSz HK0
    go_wp2_with fail
    refine HT.out.mono ?_
    rintro e w5 ⟨rfl, hl5, hk5⟩
    have HS5 := Lib.hid (show GuS w w5 g x (expand L) from ⟨hl5, HK3.out.trans hk5 (fun k e => .inr (by have := HGE.out; omega))⟩)
    clear hl5 hk5 HT HK3
    obtain ⟨c, hc⟩ : ∃ c, c = lkC x (expand L) := ⟨_, rfl⟩
    have HCE := Lib.hid hc
    have HC5 := Lib.hid (show ∀ q i, c q i ≤ 500 from fun q i => by rw [hc]; exact lkC_le (by rw [HPE.out.length_eq]; exact HLL.out) q i)
    have HRR := Lib.hid (show gf = (gTo c 8).best ∧ ge = 0 from by rw [hc, lkC_perm HPE.out]; exact HR.out)
    have HIx := Lib.hid (fun k (hk : k < 8) W => lab_index (c 0) hk W)
    clear hc HR HPE
    unfold labV at HIx
    have f0 : w5.cell? ⟨g, 3, none⟩ = some (.int .i64 (c 0 0 : Nat)) := by rw [HCE.out]; exact HS5.out.cnt (q := 0) (i := 0) (by omega) (by omega)
    have f1 : w5.cell? ⟨g, 4, none⟩ = some (.int .i64 (c 0 1 : Nat)) := by rw [HCE.out]; exact HS5.out.cnt (q := 0) (i := 1) (by omega) (by omega)
    have f2 : w5.cell? ⟨g, 5, none⟩ = some (.int .i64 (c 0 2 : Nat)) := by rw [HCE.out]; exact HS5.out.cnt (q := 0) (i := 2) (by omega) (by omega)
    have f3 : w5.cell? ⟨g, 6, none⟩ = some (.int .i64 (c 0 3 : Nat)) := by rw [HCE.out]; exact HS5.out.cnt (q := 0) (i := 3) (by omega) (by omega)
    have f4 : w5.cell? ⟨g, 7, none⟩ = some (.int .i64 (c 0 4 : Nat)) := by rw [HCE.out]; exact HS5.out.cnt (q := 0) (i := 4) (by omega) (by omega)
    have f5 : w5.cell? ⟨g, 8, none⟩ = some (.int .i64 (c 0 5 : Nat)) := by rw [HCE.out]; exact HS5.out.cnt (q := 0) (i := 5) (by omega) (by omega)
    have f6 : w5.cell? ⟨g, 9, none⟩ = some (.int .i64 (c 0 6 : Nat)) := by rw [HCE.out]; exact HS5.out.cnt (q := 0) (i := 6) (by omega) (by omega)
    have f7 : w5.cell? ⟨g, 10, none⟩ = some (.int .i64 (c 0 7 : Nat)) := by rw [HCE.out]; exact HS5.out.cnt (q := 0) (i := 7) (by omega) (by omega)
    go_wp2_with fail
    clear f0 f1 f2 f3 f4 f5 f6 f7
    go_loopg [7, 8, 9, 33] 8 (fun kx s7 s8 s9 s33 wr => ∃ (k : Nat) (s : GS), s33 = .int .i64 k ∧ k ≤ 8 ∧ 8 ≤ k + kx ∧ s7 = .int .i64 s.best ∧ s8 = .int .i64 s.num ∧ s9 = .int .i64 s.den ∧ Hid (s = gTo c k) ∧ Hid (GuS w wr g x (expand L)))
    case atStart => exact ⟨0, gTo c 0, rfl, Nat.zero_le _, Nat.le_refl _, rfl, rfl, rfl, Lib.hid rfl, HS5⟩
    case round =>
      clear HS5
      obtain ⟨k, s, rfl, hk, hkx, rfl, rfl, rfl, HB, HS⟩ := hrel
      by_cases h8 : k < 8
      · have hix := HIx.out k h8
        have j0 : (0 : Int) ≤ (k : Int) := by omega
        have j1 : (k : Int) < 8 := by omega
        have HGB := Lib.hid (show GBd s from by rw [HB.out]; exact gTo_bd HC5.out k hk)
        have HST := Lib.hid (show gTo c (k + 1) = gStep c s k from by rw [HB.out]; rfl)
        by_cases hz : c 0 k = 0
        · have d1 : ((c 0 k : Int) == 0) = true := by rw [hz]; rfl
          have d2 : decide ((c 0 k : Int) = 0) = true := decide_eq_true (by omega)
          have HST2 := Lib.hid (show s = gTo c (k + 1) from by rw [HST.out, gStep, if_pos hz])
          clear hz
          go_wp2_with fail
          go_roundg (8 - (k + 1))
          case measure => omega
          case rel => exact ⟨k + 1, s, by go_num, by omega, by omega, rfl, rfl, rfl, HST2, HS⟩
        · have d1 : ((c 0 k : Int) == 0) = false := by rw [beq_eq_false_iff_ne]; omega
          have d2 : decide ((c 0 k : Int) = 0) = false := decide_eq_false (by omega)
          have HZ := Lib.hid hz
          clear hz
          go_wp2_with fail
          clear d1 d2 hix
          have hA0 : ((c 0 k : Nat) : Int) = pA c k 0 := rfl
          go_loopg [12, 13, 40] 3 (fun ky s12 s13 s40 wr => ∃ j : Nat, s40 = .int .i64 j ∧ j ≤ 3 ∧ 3 ≤ j + ky ∧ s12 = .int .i64 (pA c k j) ∧ s13 = .int .i64 (pB c k j) ∧ Hid (GuS w wr g x (expand L)))
          case atStart => exact ⟨0, rfl, Nat.zero_le _, Nat.le_refl _, by rw [hA0], rfl, HS⟩
          case round =>
            clear HS hA0
            obtain ⟨j, rfl, hj, hjy, rfl, rfl, HS⟩ := hrel
            by_cases h3 : j < 3
            · have fc : wr.cell? ⟨g, 11 + j * 8 + k, none⟩ = some (.int .i64 (c (j + 1) k : Nat)) := by
                have := HS.out.cnt (q := j + 1) (i := k) (by omega) h8
                rw [← HCE.out] at this
                rwa [show 3 + (j + 1) * 8 + k = 11 + j * 8 + k from by omega] at this
              obtain ⟨w1', w2', w3', w4'⟩ := part_fit HC5.out k h3
              have HPA := Lib.hid (show pA c k (j + 1) = pA c k j * ((c (j + 1) k : Int) + 1) ∧ pB c k (j + 1) = pB c k j * ((c 0 k : Int) + 2) from ⟨rfl, rfl⟩)
              have t0 : (0 : Int) ≤ (j : Int) := by omega
              have t1 : (j : Int) < 3 := by omega
              generalize pA c k j = pa at *
              generalize pB c k j = pb at *
              go_wp2_with fail
              go_roundg (3 - (j + 1))
              case measure => omega
              case rel => exact ⟨j + 1, by go_num, by omega, by omega, by rw [HPA.out.1], by rw [HPA.out.2], HS⟩
            · obtain rfl : j = 3 := by omega
              obtain ⟨q1, q2⟩ := end_fit HC5.out HGB.out k
              have HG2 := Lib.hid (show gStep c s k = if s.best < 0 ∨ s.num * pB c k 3 < pA c k 3 * s.den then ⟨(k : Nat), pA c k 3, pB c k 3⟩ else s from by rw [gStep, if_neg HZ.out])
              generalize pA c k 3 = pa at *
              generalize pB c k 3 = pb at *
              obtain ⟨sb, sn, sd⟩ := s
              dsimp only at *
              by_cases hb : sb < 0
              · have d1 : decide (sb < 0) = true := decide_eq_true hb
                have HN := Lib.hid (show (⟨(k : Nat), pa, pb⟩ : GS) = gTo c (k + 1) from by rw [HST.out, HG2.out, if_pos (.inl hb)])
                clear hb
                go_wp2_with fail
                go_roundg (8 - (k + 1))
                case measure => omega
                case rel => exact ⟨k + 1, ⟨(k : Nat), pa, pb⟩, by go_num, by omega, by omega, rfl, rfl, rfl, HN, HS⟩
              · have d1 : decide (sb < 0) = false := decide_eq_false hb
                by_cases hgt : sn * pb < pa * sd
                · have d2 : decide (sn * pb < pa * sd) = true := decide_eq_true hgt
                  have HN := Lib.hid (show (⟨(k : Nat), pa, pb⟩ : GS) = gTo c (k + 1) from by rw [HST.out, HG2.out, if_pos (.inr hgt)])
                  clear hb hgt
                  go_wp2_with fail
                  go_roundg (8 - (k + 1))
                  case measure => omega
                  case rel => exact ⟨k + 1, ⟨(k : Nat), pa, pb⟩, by go_num, by omega, by omega, rfl, rfl, rfl, HN, HS⟩
                · have d2 : decide (sn * pb < pa * sd) = false := decide_eq_false hgt
                  have HN := Lib.hid (show (⟨sb, sn, sd⟩ : GS) = gTo c (k + 1) from by rw [HST.out, HG2.out, if_neg (fun h => h.elim hb hgt)])
                  clear hb hgt
                  go_wp2_with fail
                  go_roundg (8 - (k + 1))
                  case measure => omega
                  case rel => exact ⟨k + 1, ⟨sb, sn, sd⟩, by go_num, by omega, by omega, rfl, rfl, rfl, HN, HS⟩
      · obtain rfl : k = 8 := by omega
        go_wp2_with fail
        go_ret2
        exact ⟨ret_pair (by rw [HRR.out.1, ← HB.out]) HRR.out.2.symm, HS.out.kp⟩
  · have hd : decide (okX x.a ∧ okX x.b ∧ okX x.c) = false := decide_eq_false hp
    have HR := Lib.hid (HF.out.1 hp)
    rw [hd]
    clear hd hp
    go_wp2_with fail
    go_ret2
    exact ⟨ret_pair HR.out.1.symm HR.out.2.symm, HK1.out⟩
end Go.Proofs.YtgabidgpngiecaaGreat
