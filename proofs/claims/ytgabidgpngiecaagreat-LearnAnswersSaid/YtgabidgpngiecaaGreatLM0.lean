/- Contracts of learn's Line, Tree, Vote for every argument, and of the law's equal. Conditions: each names its own. -/
import Derived.Test.YtgabidgpngiecaaGreatLG0
import Derived.Test.YtgabidgpngiecaaGreatL8
import Derived.Test.YtgabidgpngiecaaGreatLT9
import Derived.Test.YtgabidgpngiecaaGreatLI0
import Derived.Test.YtgabidgpngiecaaGreatLR0
namespace Go.Proofs.YtgabidgpngiecaaGreat
open Go.RowKit Go.Proofs.YtgabidgpngiecaaGreatKit Go.Proofs.YtgabidgpngiecaaGreatPlain

set_option maxHeartbeats 1000000 in
set_option maxRecDepth 100000 in
theorem tree_full {base : Nat} {w : World} {mb b : Nat} {l : List Row} (h : Mdl base w mb b l) (levels : Nat) (hlv : levels ≤ 6) (least : Int) (h1 : 1 ≤ least) :
    Calls Tryz.prog 13 #[.pointer (some ⟨mb, 0, none⟩), .int .i64 (levels : Nat), .int .i64 least] w (TreeRet w l levels least) := by
  have H := Lib.hid h
  have HB1 := Lib.hid (Blk.new w 3 #[.int .i64 least])
  have HLen := Lib.hid (mlen_any (h.new_ ((Keep.refl No w).alloc (.cells #[.int .i64 least] 3))))
  have hll := h.len
  have HHV := Lib.hid (show _ ∧ _ from ⟨hlv, h1⟩)
  clear h
  have f0 := HB1.out.cell 0
  rw [show (#[Value.int .i64 least] : Array Value)[0]? = some (.int .i64 least) from rfl] at f0
  have j0 : (0 : Int) ≤ (levels : Int) := by omega
  have j1 : (levels : Int) ≤ 6 := by omega
  go_enter Tryz.func13, Tryz.ntmps13
  go_wp2_with fail
  refine HLen.out.mono ?_
  rintro e w2 ⟨rfl, rfl⟩
  clear HLen
  by_cases h0 : l.length = 0
  · have hd : ((l.length : Int) == 0) = true := by rw [h0]; rfl
    have H0 := Lib.hid h0
    clear h0
    go_wp2_with fail
    go_ret2
    exact .inl ⟨List.length_eq_zero_iff.1 H0.out, rfl, (Keep.refl No w).alloc _⟩
  have hd : ((l.length : Int) == 0) = false := by
    rw [beq_eq_false_iff_ne]
    omega
  have H0 := Lib.hid h0
  clear h0 f0
  have hz1 : (w.alloc (.cells #[.int .i64 least] 3)).heap.size = w.heap.size + 1 := by simp
  have hz2 : ((w.alloc (.cells #[.int .i64 least] 3)).alloc (.cells #[.slice none 0 0] 49)).heap.size = w.heap.size + 1 + 1 := by simp
  have b2 := Blk.new (w.alloc (.cells #[.int .i64 least] 3)) 49 #[.slice none 0 0]
  rw [hz1] at b2
  have b3 := Blk.new ((w.alloc (.cells #[.int .i64 least] 3)).alloc (.cells #[.slice none 0 0] 49)) 84 #[growV (w.heap.size + 1) w.heap.size (w.heap.size + 1 + 1)]
  rw [hz2] at b3
  have HBX := Lib.hid (show GBox _ (w.heap.size + 1) w.heap.size (w.heap.size + 1 + 1) (.slice none 0 0) least (growV (w.heap.size + 1) w.heap.size (w.heap.size + 1 + 1)) from ⟨b2.alloc _, (HB1.out.alloc _).alloc _, b3⟩)
  have KA := Lib.hid ((((Keep.refl No w).alloc (.cells #[.int .i64 least] 3)).alloc (.cells #[.slice none 0 0] 49)).alloc (.cells #[growV (w.heap.size + 1) w.heap.size (w.heap.size + 1 + 1)] 84))
  have HSO := Lib.hid (fun W (hW : Keep No w W) => sorted_full (H.out.new_ hW))
  have HLL := Lib.hid hll
  clear hz1 hz2 b2 b3 HB1 hll
  unfold growV at HBX KA
  go_upto_region 8 with fail
  generalize (((w.alloc (.cells #[.int .i64 least] 3)).alloc (.cells #[.slice none 0 0] 49)).alloc (.cells #[.func (.func 35) #[] #[.pointer (some ⟨w.heap.size + 1, 0, none⟩), .pointer (some ⟨w.heap.size, 0, none⟩), .pointer (some ⟨w.heap.size + 1 + 1, 0, none⟩)]] 84)) = w3 at *
  have HG := Lib.hid (fun W (v : Value) (L : List (Row × Nat)) (hk : Keep No w3 W) (hc : Cnt w3.heap.size W v L) (hp : (expand L).Perm l) (hok : ∀ p ∈ L, 0 < p.2 ∧ okRow p.1) => grow_any (least := least) levels HHV.out.1 (show GrowPre w.heap.size w3.heap.size W (w.heap.size + 1) w.heap.size (w.heap.size + 1 + 1) v (.slice none 0 0) [] least levels L from
    ⟨⟨HBX.out.out.keep hk (fun x => x), HBX.out.lea.keep hk (fun x => x), HBX.out.fn.keep hk (fun x => x)⟩, World.ownsRow_nil _ _ _ _, hc, Nat.le_trans KA.out.size hk.size, by have := HHV.out.1; have h2 : 2 ^ (levels + 1) ≤ 2 ^ 7 := Nat.pow_le_pow_right (by omega) (by omega); simp only [List.length_nil]; omega, by rw [hp.length_eq]; exact HLL.out, hok⟩))
  go_region_held3 (fun W => W.cell? ⟨w.heap.size + 1 + 1, 0, none⟩ = some (.func (.func 35) #[] #[.pointer (some ⟨w.heap.size + 1, 0, none⟩), .pointer (some ⟨w.heap.size, 0, none⟩), .pointer (some ⟨w.heap.size + 1 + 1, 0, none⟩)]) ∧ True)
    (first
      | exact ⟨HBX.out.fn.cell 0, trivial⟩
      | exact ⟨GM4.out.1.bx.fn.cell 0, trivial⟩
      | exact ⟨(HBX.out.fn.keep K4.out (fun x => x)).cell 0, trivial⟩)
    (first
      | (go_at_call 33; go_loud (refine (HSO.out _ KA.out.drew).mono ?_; rintro e w4 ⟨v, L, rfl, hc, hs1, hp, h5, hok, hk, hs2⟩; have HC4 := Lib.hid hc; have HP4 := Lib.hid (show _ ∧ _ from ⟨hp, hok⟩); have HCa := Lib.hid (show Canon L from ⟨hs1, hs2, fun p h => (hok p h).1⟩); have K4 := Lib.hid (show Keep No w3 w4 from hk.of_drew); clear hc hs1 hp h5 hok hk hs2))
      | (go_at_call 35; go_loud (refine (HG.out _ _ _ K4.out HC4.out HP4.out.1 HP4.out.2).mono ?_; rintro e w5 ⟨rfl, ov, hgm⟩; have GM4 := Lib.hid (show _ ∧ True from ⟨hgm, trivial⟩); clear hgm))
      | fail)
  have g0 := GM4.out.1.bx.out.cell 0
  rw [show (#[ov] : Array Value)[0]? = some ov from rfl] at g0
  obtain ⟨A5, c5, hv5, -⟩ := own_shape GM4.out.1.ou
  subst hv5
  go_wp2_with fail
  go_ret2
  refine .inr ⟨fun e => H0.out (by rw [e]; rfl), L, _, HP4.out.1, HCa.out, HP4.out.2, rfl, GM4.out.1.ou, ?_⟩
  exact (KA.out.trans K4.out (fun _ x => x.elim)).trans GM4.out.1.kp (fun k e => .inr (by
    rcases e with e | e
    · omega
    · cases e))

/-! ### Line -/
def LineAll (by_ of_ : Int) (l : List Row) (e : Ending) : Prop := if 0 ≤ by_ ∧ by_ < 3 ∧ 0 ≤ of_ ∧ of_ < 3 then LineRet by_.toNat of_.toNat l e else e = .returned (.tuple #[fracV 0 0, fracV 0 0, .int .i64 1])
set_option maxHeartbeats 1000000 in
set_option maxRecDepth 100000 in
theorem line_bad (w : World) (mb : Nat) (by_ of_ : Int) (h : ¬ (0 ≤ by_ ∧ by_ < 3 ∧ 0 ≤ of_ ∧ of_ < 3)) :
    Calls Tryz.prog 12 #[.pointer (some ⟨mb, 0, none⟩), .int .i64 by_, .int .i64 of_] w fun e w' => e = .returned (.tuple #[fracV 0 0, fracV 0 0, .int .i64 1]) ∧ Keep No w w' := by
  have hz : (w.alloc (.cells #[.int .i64 0, .int .i64 0] 46)).heap.size = w.heap.size + 1 := by simp
  have b2 := Blk.new (w.alloc (.cells #[.int .i64 0, .int .i64 0] 46)) 46 #[.int .i64 0, .int .i64 0]
  rw [hz] at b2
  have B1 := Lib.hid ((Blk.new w 46 #[.int .i64 0, .int .i64 0]).alloc (.cells #[.int .i64 0, .int .i64 0] 46))
  have B2 := Lib.hid b2
  have K0 := Lib.hid (((Keep.refl No w).alloc (.cells #[.int .i64 0, .int .i64 0] 46)).alloc (.cells #[.int .i64 0, .int .i64 0] 46))
  clear hz b2
  have hd : (decide (by_ < 0) || decide (3 ≤ by_) || decide (of_ < 0) || decide (3 ≤ of_)) = true := by
    simp only [Bool.or_eq_true, decide_eq_true_eq]
    omega
  clear h
  go_enter Tryz.func12, Tryz.ntmps12
  go_wp2_with fail
  all_goals
    exact bodyPost_ret (results_cells rfl _ _ w.heap.size (w.heap.size + 1) 46 #[.int .i64 0, .int .i64 0] #[.int .i64 0, .int .i64 0] (0, 0) _ rfl rfl B1.out B2.out Tryz.underlying46 rfl info_size_frac info_size_frac) rfl ⟨rfl, K0.out⟩
theorem line_all {base : Nat} {w : World} {mb b : Nat} {l : List Row} (h : Mdl base w mb b l) (by_ of_ : Int) :
    Calls Tryz.prog 12 #[.pointer (some ⟨mb, 0, none⟩), .int .i64 by_, .int .i64 of_] w fun e w' => LineAll by_ of_ l e ∧ Keep No w w' := by
  unfold LineAll
  by_cases hc : 0 ≤ by_ ∧ by_ < 3 ∧ 0 ≤ of_ ∧ of_ < 3
  · have e1 : (by_.toNat : Int) = by_ := by omega
    have e2 : (of_.toNat : Int) = of_ := by omega
    have h1 := line_any by_.toNat of_.toNat h (by omega) (by omega)
    rw [e1, e2] at h1
    exact h1.mono fun e w' h2 => ⟨by rw [if_pos hc]; exact h2.1, h2.2⟩
  · exact (line_bad w mb by_ of_ hc).mono fun e w' h2 => ⟨by rw [if_neg hc]; exact h2.1, h2.2⟩
theorem lowest_uniq {n d p q p' q' : Int} (hd : 0 < d) (h : Lowest n d p q) (h' : Lowest n d p' q') : p = p' ∧ q = q' := by
  have hg : 0 < (Int.gcd n d : Int) := by
    have := Int.gcd_pos_of_ne_zero_right n (show d ≠ 0 by omega)
    omega
  obtain ⟨_, e1, e2, _⟩ := h
  obtain ⟨_, f1, f2, _⟩ := h'
  exact ⟨Int.eq_of_mul_eq_mul_right (by omega) (e1.trans f1.symm), Int.eq_of_mul_eq_mul_right (by omega) (e2.trans f2.symm)⟩
theorem line_one {i j : Nat} {l l' : List Row} (hp : l.Perm l') {e e' : Ending} (h : LineRet i j l e) (h' : LineRet i j l' e') : e = e' := by
  have hs : ∀ f : Row → Int, sumf f l = sumf f l' := fun f => sumf_perm f hp
  have hd : disc (fun r => r.x i) l = disc (fun r => r.x i) l' := disc_perm _ hp
  have hl := hp.length_eq
  rcases h with ⟨a, rfl⟩ | ⟨a, p, q, p', q', rfl, a1, a2⟩
  · rcases h' with ⟨b, rfl⟩ | ⟨b, _⟩
    · rfl
    · omega
  · rcases h' with ⟨b, rfl⟩ | ⟨b, s, t, s', t', rfl, b1, b2⟩
    · omega
    · rw [← hd, ← hl, ← hs fun r => r.x i * r.x j, ← hs fun r => r.x i, ← hs fun r => r.x j] at b1
      rw [← hd, ← hs fun r => r.x i * r.x j, ← hs fun r => r.x i, ← hs fun r => r.x j, ← hs fun r => r.x i * r.x i] at b2
      obtain ⟨rfl, rfl⟩ := lowest_uniq a a1 b1
      obtain ⟨rfl, rfl⟩ := lowest_uniq a a2 b2
      rfl

/-! ### Tree -/
/-- What Tree gives, whatever it is asked. -/
def TreeAll (w : World) (l : List Row) (deep least : Int) (e : Ending) (w' : World) : Prop :=
  if 0 ≤ deep ∧ deep ≤ 6 ∧ 1 ≤ least then TreeRet w l deep.toNat least e w' else e = .returned (.tuple #[.slice none 0 0, .int .i64 1]) ∧ Keep No w w'
set_option maxHeartbeats 1000000 in
set_option maxRecDepth 100000 in
theorem tree_bad (w : World) (mb : Nat) (deep least : Int) (h : ¬ (0 ≤ deep ∧ deep ≤ 6 ∧ 1 ≤ least)) :
    Calls Tryz.prog 13 #[.pointer (some ⟨mb, 0, none⟩), .int .i64 deep, .int .i64 least] w fun e w' => e = .returned (.tuple #[.slice none 0 0, .int .i64 1]) ∧ Keep No w w' := by
  have K0 := Lib.hid ((Keep.refl No w).alloc (.cells #[.int .i64 least] 3))
  have f0 := (Blk.new w 3 #[.int .i64 least]).cell 0
  rw [show (#[Value.int .i64 least] : Array Value)[0]? = some (.int .i64 least) from rfl] at f0
  have hd : (decide (deep < 0) || decide (6 < deep) || decide (least < 1)) = true := by
    simp only [Bool.or_eq_true, decide_eq_true_eq]
    omega
  clear h
  go_enter Tryz.func13, Tryz.ntmps13
  go_wp2_with fail
  all_goals
    go_ret2
    exact ⟨rfl, K0.out⟩
theorem tree_all {base : Nat} {w : World} {mb b : Nat} {l : List Row} (h : Mdl base w mb b l) (deep least : Int) :
    Calls Tryz.prog 13 #[.pointer (some ⟨mb, 0, none⟩), .int .i64 deep, .int .i64 least] w (TreeAll w l deep least) := by
  by_cases hc : 0 ≤ deep ∧ deep ≤ 6 ∧ 1 ≤ least
  · have e1 : (deep.toNat : Int) = deep := by omega
    have h1 := tree_full h deep.toNat (by omega) least hc.2.2
    rw [e1] at h1
    exact h1.mono fun e w' h2 => by unfold TreeAll; rw [if_pos hc]; exact h2
  · exact (tree_bad w mb deep least hc).mono fun e w' h2 => by unfold TreeAll; rw [if_neg hc]; exact h2

/-! ### Vote -/
def voteV (x : Row) (k : Int) (l : List Row) (e : Ending) : Prop :=
  if okPt x ∧ 1 ≤ k then (if l.length = 0 then e = .returned (.tuple #[.int .i64 0, .int .i64 3]) else ∃ L, Canon L ∧ (expand L).Perm l ∧ e = .returned (.tuple #[.int .i64 (voteF x L k.toNat), .int .i64 0])) else e = .returned (.tuple #[.int .i64 0, .int .i64 1])
set_option maxHeartbeats 1000000 in
set_option maxRecDepth 100000 in
theorem vote_bad (w : World) (mb : Nat) (x : Row) (k : Int) (h : ¬ (okPt x ∧ 1 ≤ k)) :
    Calls Tryz.prog 14 #[.pointer (some ⟨mb, 0, none⟩), ptV x, .int .i64 k] w fun e w' => e = .returned (.tuple #[.int .i64 0, .int .i64 1]) ∧ Keep No w w' := by
  have B0 := Blk.new w 28 #[.int .i64 x.a, .int .i64 x.b, .int .i64 x.c]
  have K0 := Lib.hid ((Keep.refl No w).alloc (.cells #[.int .i64 x.a, .int .i64 x.b, .int .i64 x.c] 28))
  have HI := Lib.hid (fun W => inside_any x.a x.b x.c W)
  have f0 := B0.cell 0
  have f1 := B0.cell 1
  have f2 := B0.cell 2
  simp only [List.getElem?_toArray, List.getElem?_cons_zero, List.getElem?_cons_succ] at f0 f1 f2
  have HH := Lib.hid h
  clear h B0
  unfold ptV
  go_enter Tryz.func14, Tryz.ntmps14
  go_wp2_with fail
  refine (HI.out _).mono ?_
  rintro e w1 ⟨rfl, hk1⟩
  have HK := Lib.hid (K0.out.trans hk1 (fun _ x => x.elim))
  clear hk1 f0 f1 f2
  by_cases hp : okPt x
  · have hd : decide (okX x.a ∧ okX x.b ∧ okX x.c) = true := decide_eq_true hp
    have hk1 : ¬ 1 ≤ k := fun h => HH.out ⟨hp, h⟩
    have hk : decide (k < 1) = true := decide_eq_true (by omega)
    clear hk1
    rw [hd]
    clear hd hp
    go_wp2_with fail
    go_ret2
    exact ⟨rfl, HK.out⟩
  · have hd : decide (okX x.a ∧ okX x.b ∧ okX x.c) = false := decide_eq_false hp
    rw [hd]
    clear hd hp
    go_wp2_with fail
    go_ret2
    exact ⟨rfl, HK.out⟩
theorem vote_all {base : Nat} {w : World} {mb b : Nat} {l : List Row} (h : Mdl base w mb b l) (x : Row) (k : Int) (hk : k < 9223372036854775808) :
    Calls Tryz.prog 14 #[.pointer (some ⟨mb, 0, none⟩), ptV x, .int .i64 k] w fun e w' => voteV x k l e ∧ Keep No w w' := by
  by_cases hc : okPt x ∧ 1 ≤ k
  · by_cases h0 : l.length = 0
    · have hl : l = [] := List.length_eq_zero_iff.1 h0
      subst hl
      exact (vote_none x k h hc.1 hc.2).mono fun e w' h2 => ⟨by unfold voteV; rw [if_pos hc, if_pos List.length_nil]; exact h2.1, h2.2⟩
    · exact (vote_any x k h hk hc.1 hc.2 (by omega)).mono fun e w' ⟨L, a1, a2, a3, a4⟩ => ⟨by unfold voteV; rw [if_pos hc, if_neg h0]; exact ⟨L, a1, a2, a3⟩, a4⟩
  · exact (vote_bad w mb x k hc).mono fun e w' h2 => ⟨by unfold voteV; rw [if_neg hc]; exact h2.1, h2.2⟩
theorem vote_same {x : Row} {k : Int} {l l' : List Row} (hp : l.Perm l') {e e' : Ending} (h : voteV x k l e) (h' : voteV x k l' e') : e = e' := by
  unfold voteV at h h'
  by_cases hc : okPt x ∧ 1 ≤ k
  · rw [if_pos hc] at h h'
    by_cases h0 : l.length = 0
    · rw [if_pos h0] at h
      rw [if_pos (by rw [← hp.length_eq]; exact h0)] at h'
      rw [h, h']
    · rw [if_neg h0] at h
      rw [if_neg (by rw [← hp.length_eq]; exact h0)] at h'
      obtain ⟨L, a1, a2, rfl⟩ := h
      obtain ⟨L', b1, b2, rfl⟩ := h'
      rw [canon_one a1 b1 ((a2.trans hp).trans b2.symm)]
  · rw [if_neg hc] at h h'
    rw [h, h']
end Go.Proofs.YtgabidgpngiecaaGreat

namespace Go.Proofs.YtgabidgpngiecaaGreat
open Go.RowKit Go.Proofs.YtgabidgpngiecaaGreatKit Go.Proofs.YtgabidgpngiecaaGreatPlain

theorem wf_mid {n : Int} (h : Mid n) : (Lit.int .i64 n).wf = true := by
  unfold Mid at h
  simp [Lit.wf, IntKind.min, IntKind.max, IntKind.signed, IntKind.bits]
  omega
theorem cells_int64 : Tryz.prog.cellsOf 2 = 1 := by kernel_rfl
theorem cells_frac : Tryz.prog.cellsOf 46 = 2 := by kernel_rfl
set_option maxRecDepth 100000 in
/-- A fraction compared with itself. -/
theorem eq2 {a0 a1 : Int} (h0 : Mid a0) (h1 : Mid a1) (W : World) :
    (Op.equalIn 10000 46 (.agg #[.int .i64 a0, .int .i64 a1]) (.agg #[.int .i64 a0, .int .i64 a1])).run Tryz.prog W = .ok true W := by
  have x0 := wf_mid h0
  have x1 := wf_mid h1
  have hk : Tryz.prog.keyTypeAt 3 46 = true := by kernel_rfl
  obtain ⟨r, e1, e2⟩ := run_equalIn_deep (P := Tryz.prog) 9997 3 46 hk W 3 3 (.agg #[.int .i64 a0, .int .i64 a1]) (.agg #[.int .i64 a0, .int .i64 a1]) [.int .i64 a0, .int .i64 a1] [.int .i64 a0, .int .i64 a1]
    (by simp [Value.formed, Tryz.underlying46]; exact cells_frac.symm) (by simp [Value.formed, Tryz.underlying46]; exact cells_frac.symm)
    (by simp [Value.cells, Program.keyLits, Tryz.underlying46, Tryz.underlying2, cells_int64, x0, x1, List.range]; exact cells_frac.symm)
    (by simp [Value.cells, Program.keyLits, Tryz.underlying46, Tryz.underlying2, cells_int64, x0, x1, List.range]; exact cells_frac.symm)
  have e : (10000 : Nat) = 9997 + 3 := by omega
  rw [e]
  refine e1.trans ?_
  congr 1
  rw [e2]
theorem line_shape {by_ of_ : Int} {l : List Row} {e : Ending} (hl : l.length ≤ 500) (hok : ∀ r ∈ l, okRow r) (h : LineAll by_ of_ l e) : ∃ P Q P' Q' E, e = .returned (.tuple #[.agg #[.int .i64 P, .int .i64 Q], .agg #[.int .i64 P', .int .i64 Q'], .int .i64 E]) ∧ Mid P ∧ Mid Q ∧ Mid P' ∧ Mid Q' := by
  have m0 : Mid 0 := by unfold Mid; omega
  unfold LineAll at h
  split at h
  · rcases h with ⟨a, rfl⟩ | ⟨a, p, q, p', q', rfl, a1, a2⟩
    · exact ⟨0, 0, 0, 0, 3, rfl, m0, m0, m0, m0⟩
    · have hb := bnd_rows by_.toNat of_.toNat hl hok
      have hm1 := lowest_mid a1 hb.d2 hb.d1 a
      have hm2 := lowest_mid a2 hb.d3 hb.d1 a
      exact ⟨p, q, p', q', 0, rfl, hm1.1, hm1.2, hm2.1, hm2.2⟩
  · exact ⟨0, 0, 0, 0, 1, h, m0, m0, m0, m0⟩
theorem lineall_one {by_ of_ : Int} {l l' : List Row} (hp : l.Perm l') {e e' : Ending} (h : LineAll by_ of_ l e) (h' : LineAll by_ of_ l' e') : e = e' := by
  unfold LineAll at h h'
  split at h
  · rename_i hc
    rw [if_pos hc] at h'
    exact line_one hp h h'
  · rename_i hc
    rw [if_neg hc] at h'
    rw [h, h']
theorem vote_shape {x : Row} {k : Int} {l : List Row} {e : Ending} (h : voteV x k l e) : ∃ v E : Int, e = .returned (.tuple #[.int .i64 v, .int .i64 E]) := by
  unfold voteV at h
  split at h
  · split at h
    · exact ⟨_, _, h⟩
    · obtain ⟨L, _, _, e⟩ := h
      exact ⟨_, _, e⟩
  · exact ⟨_, _, h⟩
theorem guess_perm {x : Row} {l l' : List Row} (hp : l.Perm l') : guessF x l = guessF x l' ∧ guessE x l = guessE x l' := by
  unfold guessF guessE
  rw [hp.length_eq, lkC_perm hp]
  exact ⟨rfl, rfl⟩
/-! ### Trees -/
theorem leaf_fit {L : List (Row × Nat)} (hl : (expand L).length ≤ 500) (hok : ∀ p ∈ L, 0 < p.2 ∧ okRow p.1) : BrFit (leafB L) := by
  intro n hn
  have h1 := totC_len (hok_of hok)
  have h2 := mostC_lt8 (cnt8 (expand L))
  unfold leafB at hn
  simp only [List.mem_cons, List.not_mem_nil, or_false] at hn
  rcases hn with rfl | rfl | rfl | rfl | rfl | rfl <;> omega
theorem treeL_fit (few : Int) : ∀ (left : Nat) (L : List (Row × Nat)) (at_ : Nat), (expand L).length ≤ 500 → (∀ p ∈ L, 0 < p.2 ∧ okRow p.1) → at_ + 2 ^ (left + 1) ≤ 100000 → ∀ b ∈ treeL few left L at_, BrFit b
  | 0, L, _, hl, hok, _ => fun b hb => by
    rw [treeL] at hb
    rw [List.mem_singleton.1 hb]
    exact leaf_fit hl hok
  | left + 1, L, at_, hl, hok, ha => fun b hb => by
    rw [treeL] at hb
    split at hb
    · rw [List.mem_singleton.1 hb]
      exact leaf_fit hl hok
    · rename_i hnl
      have hok1 : (bestTo L 3).ok = true := by
        cases h : (bestTo L 3).ok
        · exact absurd (.inr (.inr (.inr h))) hnl
        · rfl
      obtain ⟨hcol, hcut⟩ := best_some 3 hok1
      obtain ⟨hm1, _⟩ := dropLast_lt (colL_up _ _) hcut
      obtain ⟨q, hq, eq⟩ := colL_mem.1 hm1
      have hx := (hok q hq).2.x (bestTo L 3).col
      have hex := expand_low (c := (bestTo L 3).col) (x := (bestTo L 3).cut) (L := L)
      have okl : ∀ p ∈ lowL (bestTo L 3).col (bestTo L 3).cut L, 0 < p.2 ∧ okRow p.1 := fun p hp => hok p (List.mem_filter.1 hp).1
      have okh : ∀ p ∈ highL (bestTo L 3).col (bestTo L 3).cut L, 0 < p.2 ∧ okRow p.1 := fun p hp => hok p (List.mem_filter.1 hp).1
      have l1 := treeL_len few left (lowL (bestTo L 3).col (bestTo L 3).cut L) (at_ + 1)
      have hp2 : 2 ^ (left + 1 + 1) = 2 ^ (left + 1) * 2 := Nat.pow_succ ..
      rcases List.mem_cons.1 hb with rfl | hb
      · intro n hn
        have h1 := totC_len (hok_of hok)
        simp only [List.mem_cons, List.not_mem_nil, or_false] at hn
        rcases hn with rfl | rfl | rfl | rfl | rfl | rfl <;> omega
      · rcases List.mem_append.1 hb with hb | hb
        · exact treeL_fit few left _ _ (by omega) okl (by omega) b hb
        · exact treeL_fit few left _ _ (by omega) okh (by omega) b hb
end Go.Proofs.YtgabidgpngiecaaGreat

namespace Go.Proofs.YtgabidgpngiecaaGreat
open Go.RowKit Go.Proofs.YtgabidgpngiecaaGreatKit Go.Proofs.YtgabidgpngiecaaGreatPlain

theorem canon_exists {base : Nat} {w : World} {mb b : Nat} {l : List Row} (h : Mdl base w mb b l) : ∃ L, Canon L ∧ (expand L).Perm l := by
  obtain ⟨s, hs, hp, _⟩ := h
  have HD : s.Pairwise (fun p q => p.1 ≠ q.1) := by
    have h0 := hs.map.nodup
    rw [List.pairwise_map] at h0
    exact h0.imp (fun h e => h (by unfold entV; rw [e]))
  have hperm := List.mergeSort_perm s (fun p q => !decide (lexLt q.1 p.1))
  refine ⟨s.mergeSort (fun p q => !decide (lexLt q.1 p.1)), ⟨?_, ?_, fun p hp => (hs.ok p (hperm.mem_iff.1 hp)).1⟩, (expand_perm hperm).trans hp⟩
  · have h1 := List.pairwise_mergeSort (le := fun p q : Row × Nat => !decide (lexLt q.1 p.1)) (fun a b c h1 h2 => by
      simp only [Bool.not_eq_true', decide_eq_false_iff_not] at *
      unfold lexLt at *
      omega) (fun a b => by
      simp only [Bool.or_eq_true, Bool.not_eq_true', decide_eq_false_iff_not]
      unfold lexLt
      omega) s
    exact h1.imp (fun h => by simpa using h)
  · exact (hperm.symm.pairwise_iff (fun h e => h e.symm)).1 HD
theorem image_str {base : Nat} {w : World} {mb b : Nat} {l : List Row} {L0 : List (Row × Nat)} (h : Mdl base w mb b l) (hc : Canon L0) (hp : (expand L0).Perm l) :
    Calls Tryz.prog 22 #[.pointer (some ⟨mb, 0, none⟩)] w fun e w' => ∃ A n c, e = .returned (.slice A n c) ∧ Bytes 0 w' A n (imgL L0) ∧ Keep No w w' :=
  (image_any h).mono fun _ _ ⟨v, L, e, h1, h2, h3, h4⟩ => by
    obtain ⟨A, c, rfl, _⟩ := h3.shape
    obtain rfl := canon_one h1 hc (h2.trans hp.symm)
    exact ⟨A, _, c, e, h3.bytes, h4⟩
theorem cells_a8 : Tryz.prog.cellsOf 62 = 8 := by kernel_rfl
set_option maxRecDepth 100000 in
/-- Counts compared with themselves. -/
theorem eq8s {c : Nat → Nat} (hc : ∀ i, c i ≤ 1000) (W : World) :
    (Op.equalIn 10000 62 (labV c) (labV c)).run Tryz.prog W = .ok true W := by
  have hw : ∀ i, (Lit.int .i64 (c i : Nat)).wf = true := fun i => wf_small (by have := hc i; omega) (by have := hc i; omega)
  have x0 := hw 0
  have x1 := hw 1
  have x2 := hw 2
  have x3 := hw 3
  have x4 := hw 4
  have x5 := hw 5
  have x6 := hw 6
  have x7 := hw 7
  have hk : Tryz.prog.keyTypeAt 3 62 = true := by kernel_rfl
  unfold labV
  generalize ((c 0 : Nat) : Int) = a0 at *
  generalize ((c 1 : Nat) : Int) = a1 at *
  generalize ((c 2 : Nat) : Int) = a2 at *
  generalize ((c 3 : Nat) : Int) = a3 at *
  generalize ((c 4 : Nat) : Int) = a4 at *
  generalize ((c 5 : Nat) : Int) = a5 at *
  generalize ((c 6 : Nat) : Int) = a6 at *
  generalize ((c 7 : Nat) : Int) = a7 at *
  clear hw hc
  obtain ⟨r, h1, h2⟩ := run_equalIn_deep (P := Tryz.prog) 9997 3 62 hk W 3 3 (.agg #[.int .i64 a0, .int .i64 a1, .int .i64 a2, .int .i64 a3, .int .i64 a4, .int .i64 a5, .int .i64 a6, .int .i64 a7]) (.agg #[.int .i64 a0, .int .i64 a1, .int .i64 a2, .int .i64 a3, .int .i64 a4, .int .i64 a5, .int .i64 a6, .int .i64 a7]) [.int .i64 a0, .int .i64 a1, .int .i64 a2, .int .i64 a3, .int .i64 a4, .int .i64 a5, .int .i64 a6, .int .i64 a7] [.int .i64 a0, .int .i64 a1, .int .i64 a2, .int .i64 a3, .int .i64 a4, .int .i64 a5, .int .i64 a6, .int .i64 a7]
    (by simp [Value.formed, Tryz.underlying62]; exact cells_a8.symm) (by simp [Value.formed, Tryz.underlying62]; exact cells_a8.symm)
    (by simp [Value.cells, Program.keyLits, Tryz.underlying62, Tryz.underlying3, cells_int, x0, x1, x2, x3, x4, x5, x6, x7, List.range, List.range.loop]; exact cells_a8.symm)
    (by simp [Value.cells, Program.keyLits, Tryz.underlying62, Tryz.underlying3, cells_int, x0, x1, x2, x3, x4, x5, x6, x7, List.range, List.range.loop]; exact cells_a8.symm)
  have e : (10000 : Nat) = 9997 + 3 := by omega
  rw [e]
  refine h1.trans ?_
  congr 1
  rw [h2]
def askV (x : Row) (k by_ of_ deep least : Int) : Value := .agg #[.int .i64 x.a, .int .i64 x.b, .int .i64 x.c, .int .i64 k, .int .i64 by_, .int .i64 of_, .int .i64 deep, .int .i64 least]
/-- What equal holds: two models, the question. -/
structure EqS (w W : World) (base base' ma ba mb bb : Nat) (l l' : List Row) (x : Row) (k by_ of_ deep least : Int) : Prop where
  a : Mdl base W ma ba l
  b : Mdl base' W mb bb l'
  q : Blk W w.heap.size 39 #[.int .i64 x.a, .int .i64 x.b, .int .i64 x.c, .int .i64 k, .int .i64 by_, .int .i64 of_, .int .i64 deep, .int .i64 least]
  kp : Keep No w W
theorem EqS.new_ {w W W' : World} {base base' ma ba mb bb : Nat} {l l' : List Row} {x : Row} {k by_ of_ deep least : Int} (h : EqS w W base base' ma ba mb bb l l' x k by_ of_ deep least) (hk : Keep No W W') : EqS w W' base base' ma ba mb bb l l' x k by_ of_ deep least := ⟨h.a.new_ hk, h.b.new_ hk, h.q.keep hk (fun x => x), h.kp.trans hk (fun _ x => x.elim)⟩
theorem two_fracs (W : World) (P Q P' Q' : Int) : Blk ((W.alloc (.cells #[.int .i64 P, .int .i64 Q] 46)).alloc (.cells #[.int .i64 P', .int .i64 Q'] 46)) W.heap.size 46 #[.int .i64 P, .int .i64 Q] ∧ Blk ((W.alloc (.cells #[.int .i64 P, .int .i64 Q] 46)).alloc (.cells #[.int .i64 P', .int .i64 Q'] 46)) (W.heap.size + 1) 46 #[.int .i64 P', .int .i64 Q'] ∧ Keep No W ((W.alloc (.cells #[.int .i64 P, .int .i64 Q] 46)).alloc (.cells #[.int .i64 P', .int .i64 Q'] 46)) := by
  have hz : (W.alloc (.cells #[.int .i64 P, .int .i64 Q] 46)).heap.size = W.heap.size + 1 := by simp
  have b2 := Blk.new (W.alloc (.cells #[.int .i64 P, .int .i64 Q] 46)) 46 #[.int .i64 P', .int .i64 Q']
  rw [hz] at b2
  exact ⟨(Blk.new W _ _).alloc _, b2, ((Keep.refl No W).alloc _).alloc _⟩
/-- What Tree gives, as a function of the sorted rows and their number. -/
def treeT (L0 : List (Row × Nat)) (n : Nat) (deep least : Int) : List Br := if (0 ≤ deep ∧ deep ≤ 6 ∧ 1 ≤ least) ∧ n ≠ 0 then treeL least deep.toNat L0 0 else []
def treeEr (n : Nat) (deep least : Int) : Int := if 0 ≤ deep ∧ deep ≤ 6 ∧ 1 ≤ least then (if n = 0 then 3 else 0) else 1
theorem tree_got {w w' : World} {l : List Row} {L0 : List (Row × Nat)} {deep least : Int} {e : Ending} (hc : Canon L0) (hp : (expand L0).Perm l) (h : TreeAll w l deep least e w') :
    ∃ A c, e = .returned (.tuple #[.slice A (treeT L0 l.length deep least).length c, .int .i64 (treeEr l.length deep least)]) ∧ BOwn w.heap.size w' (.slice A (treeT L0 l.length deep least).length c) (treeT L0 l.length deep least) ∧ Keep No w w' := by
  unfold TreeAll at h
  unfold treeT treeEr
  by_cases hv : 0 ≤ deep ∧ deep ≤ 6 ∧ 1 ≤ least
  · rw [if_pos hv] at h
    rcases h with ⟨h0, rfl, hk⟩ | ⟨h0, L, ov, p1, c1, ok1, rfl, ho, hk⟩
    · have hl : l.length = 0 := by rw [h0]; rfl
      rw [if_neg (fun h => h.2 hl), if_pos hv, if_pos hl]
      exact ⟨none, 0, rfl, World.ownsRow_nil _ _ _ _, hk⟩
    · have hl : l.length ≠ 0 := fun e => h0 (List.length_eq_zero_iff.1 e)
      obtain rfl := canon_one c1 hc (p1.trans hp.symm)
      rw [if_pos ⟨hv, hl⟩, if_pos hv, if_neg hl]
      obtain ⟨A, c, rfl, _⟩ := own_shape ho
      exact ⟨A, c, rfl, ho, hk⟩
  · rw [if_neg hv] at h
    rw [if_neg (fun h => hv h.1), if_neg hv]
    exact ⟨none, 0, h.1, World.ownsRow_nil _ _ _ _, h.2⟩
theorem treeT_fit {l : List Row} {L0 : List (Row × Nat)} {deep least : Int} (hc : Canon L0) (hp : (expand L0).Perm l) (hl : l.length ≤ 500) (hok : ∀ r ∈ l, okRow r) : (∀ b ∈ treeT L0 l.length deep least, BrFit b) ∧ (treeT L0 l.length deep least).length ≤ 200 := by
  unfold treeT
  split
  · rename_i hv
    have hok' : ∀ p ∈ L0, 0 < p.2 ∧ okRow p.1 := fun p hpm => ⟨hc.pos p hpm, hok _ (hp.mem_iff.1 (mem_expand.2 ⟨p.2, hpm, hc.pos p hpm⟩))⟩
    have h2 : 2 ^ (deep.toNat + 1) ≤ 2 ^ 7 := Nat.pow_le_pow_right (by omega) (by omega)
    have h3 := treeL_len least deep.toNat L0 0
    exact ⟨treeL_fit least deep.toNat L0 0 (by rw [hp.length_eq]; exact hl) hok' (by omega), by omega⟩
  · exact ⟨fun b hb => absurd hb (List.not_mem_nil), Nat.zero_le _⟩
end Go.Proofs.YtgabidgpngiecaaGreat
