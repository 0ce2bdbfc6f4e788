/- Contracts of learn's Line, Tree, Vote for every argument, and of the law's equal. Conditions: each names its own. -/
import Derived.Test.YtgabidgpngiecaaLG0
import Derived.Test.YtgabidgpngiecaaL8
import Derived.Test.YtgabidgpngiecaaLT9
import Derived.Test.YtgabidgpngiecaaLI0
import Derived.Test.YtgabidgpngiecaaLR0
namespace Go.Proofs.Ytgabidgpngiecaa
open Go.RowKit Go.Proofs.YtgabidgpngiecaaKit Go.Proofs.YtgabidgpngiecaaPlain

set_option maxHeartbeats 1000000 in
set_option maxRecDepth 100000 in
theorem tree_full {base : Nat} {w : World} {mb b : Nat} {l : List Row} (h : Mdl base w mb b l) (levels : Nat) (hlv : levels ≤ 6) (least : Int) (h1 : 1 ≤ least) :
    Calls Try.prog 23 #[.pointer (some ⟨mb, 0, none⟩), .int .i64 (levels : Nat), .int .i64 least] w (TreeRet w l levels least) := by
  have H := Lib.hid h
  have HB1 := Lib.hid (Blk.new w 3 #[.int .i64 least])
  have HLen := Lib.hid (mlen_any (h.new_ ((Keep.refl No w).alloc (.cells #[.int .i64 least] 3))))
  have hll := h.len
  have HHV := Lib.hid (show _ ∧ _ from ⟨hlv, h1⟩)
  clear h
  have f0 := HB1.out.cell 0
  rw [show (#[Value.int .i64 least] : Array Value)[0]? = some (.int .i64 least) from rfl] at f0
  have j0 : (0 : Int) ≤ (levels : Int) := by omega
  have j1 : (levels : Int) ≤ 6 := by omega
  go_enter Try.func23, Try.ntmps23
  go_wp2_with fail
  refine HLen.out.mono ?_
  rintro e w2 ⟨rfl, rfl⟩
  clear HLen
  by_cases h0 : l.length = 0
  · have hd : ((l.length : Int) == 0) = true := by rw [h0]; rfl
    have H0 := Lib.hid h0
    clear h0
    go_wp2_with fail
    go_ret2
    exact .inl ⟨List.length_eq_zero_iff.1 H0.out, rfl, (Keep.refl No w).alloc _⟩
  have hd : ((l.length : Int) == 0) = false := by
    rw [beq_eq_false_iff_ne]
    omega
  have H0 := Lib.hid h0
  clear h0 f0
  have hz1 : (w.alloc (.cells #[.int .i64 least] 3)).heap.size = w.heap.size + 1 := by simp
  have hz2 : ((w.alloc (.cells #[.int .i64 least] 3)).alloc (.cells #[.slice none 0 0] 51)).heap.size = w.heap.size + 1 + 1 := by simp
  have b2 := Blk.new (w.alloc (.cells #[.int .i64 least] 3)) 51 #[.slice none 0 0]
  rw [hz1] at b2
  have b3 := Blk.new ((w.alloc (.cells #[.int .i64 least] 3)).alloc (.cells #[.slice none 0 0] 51)) 97 #[growV (w.heap.size + 1) w.heap.size (w.heap.size + 1 + 1)]
  rw [hz2] at b3
  have HBX := Lib.hid (show GBox _ (w.heap.size + 1) w.heap.size (w.heap.size + 1 + 1) (.slice none 0 0) least (growV (w.heap.size + 1) w.heap.size (w.heap.size + 1 + 1)) from ⟨b2.alloc _, (HB1.out.alloc _).alloc _, b3⟩)
  have KA := Lib.hid ((((Keep.refl No w).alloc (.cells #[.int .i64 least] 3)).alloc (.cells #[.slice none 0 0] 51)).alloc (.cells #[growV (w.heap.size + 1) w.heap.size (w.heap.size + 1 + 1)] 97))
  have HSO := Lib.hid (fun W (hW : Keep No w W) => sorted_full (H.out.new_ hW))
  have HLL := Lib.hid hll
  clear hz1 hz2 b2 b3 HB1 hll
  unfold growV at HBX KA
  go_upto_region 8 with fail
  generalize (((w.alloc (.cells #[.int .i64 least] 3)).alloc (.cells #[.slice none 0 0] 51)).alloc (.cells #[.func (.func 44) #[] #[.pointer (some ⟨w.heap.size + 1, 0, none⟩), .pointer (some ⟨w.heap.size, 0, none⟩), .pointer (some ⟨w.heap.size + 1 + 1, 0, none⟩)]] 97)) = w3 at *
  have HG := Lib.hid (fun W (v : Value) (L : List (Row × Nat)) (hk : Keep No w3 W) (hc : Cnt w3.heap.size W v L) (hp : (expand L).Perm l) (hok : ∀ p ∈ L, 0 < p.2 ∧ okRow p.1) => grow_any (least := least) levels HHV.out.1 (show GrowPre w.heap.size w3.heap.size W (w.heap.size + 1) w.heap.size (w.heap.size + 1 + 1) v (.slice none 0 0) [] least levels L from
    ⟨⟨HBX.out.out.keep hk (fun x => x), HBX.out.lea.keep hk (fun x => x), HBX.out.fn.keep hk (fun x => x)⟩, World.ownsRow_nil _ _ _ _, hc, Nat.le_trans KA.out.size hk.size, by have := HHV.out.1; have h2 : 2 ^ (levels + 1) ≤ 2 ^ 7 := Nat.pow_le_pow_right (by omega) (by omega); simp only [List.length_nil]; omega, by rw [hp.length_eq]; exact HLL.out, hok⟩))
  go_region_held3 (fun W => W.cell? ⟨w.heap.size + 1 + 1, 0, none⟩ = some (.func (.func 44) #[] #[.pointer (some ⟨w.heap.size + 1, 0, none⟩), .pointer (some ⟨w.heap.size, 0, none⟩), .pointer (some ⟨w.heap.size + 1 + 1, 0, none⟩)]) ∧ True)
    (first
      | exact ⟨HBX.out.fn.cell 0, trivial⟩
      | exact ⟨GM4.out.1.bx.fn.cell 0, trivial⟩
      | exact ⟨(HBX.out.fn.keep K4.out (fun x => x)).cell 0, trivial⟩)
    (first
      | (go_at_call 30; go_loud (refine (HSO.out _ KA.out.drew).mono ?_; rintro e w4 ⟨v, L, rfl, hc, hs1, hp, h5, hok, hk, hs2⟩; have HC4 := Lib.hid hc; have HP4 := Lib.hid (show _ ∧ _ from ⟨hp, hok⟩); have HCa := Lib.hid (show Canon L from ⟨hs1, hs2, fun p h => (hok p h).1⟩); have K4 := Lib.hid (show Keep No w3 w4 from hk.of_drew); clear hc hs1 hp h5 hok hk hs2))
      | (go_at_call 44; go_loud (refine (HG.out _ _ _ K4.out HC4.out HP4.out.1 HP4.out.2).mono ?_; rintro e w5 ⟨rfl, ov, hgm⟩; have GM4 := Lib.hid (show _ ∧ True from ⟨hgm, trivial⟩); clear hgm))
      | fail)
  have g0 := GM4.out.1.bx.out.cell 0
  rw [show (#[ov] : Array Value)[0]? = some ov from rfl] at g0
  obtain ⟨A5, c5, hv5, -⟩ := own_shape GM4.out.1.ou
  subst hv5
  go_wp2_with fail
  go_ret2
  refine .inr ⟨fun e => H0.out (by rw [e]; rfl), L, _, HP4.out.1, HCa.out, HP4.out.2, rfl, GM4.out.1.ou, ?_⟩
  exact (KA.out.trans K4.out (fun _ x => x.elim)).trans GM4.out.1.kp (fun k e => .inr (by
    rcases e with e | e
    · omega
    · cases e))

/-! ### Line -/
def LineAll (by_ of_ : Int) (l : List Row) (e : Ending) : Prop := if 0 ≤ by_ ∧ by_ < 3 ∧ 0 ≤ of_ ∧ of_ < 3 then LineRet by_.toNat of_.toNat l e else e = .returned (.tuple #[fracV 0 0, fracV 0 0, .int .i64 1])
set_option maxHeartbeats 1000000 in
set_option maxRecDepth 100000 in
theorem line_bad (w : World) (mb : Nat) (by_ of_ : Int) (h : ¬ (0 ≤ by_ ∧ by_ < 3 ∧ 0 ≤ of_ ∧ of_ < 3)) :
    Calls Try.prog 11 #[.pointer (some ⟨mb, 0, none⟩), .int .i64 by_, .int .i64 of_] w fun e w' => e = .returned (.tuple #[fracV 0 0, fracV 0 0, .int .i64 1]) ∧ Keep No w w' := by
  have hz : (w.alloc (.cells #[.int .i64 0, .int .i64 0] 27)).heap.size = w.heap.size + 1 := by simp
  have b2 := Blk.new (w.alloc (.cells #[.int .i64 0, .int .i64 0] 27)) 27 #[.int .i64 0, .int .i64 0]
  rw [hz] at b2
  have B1 := Lib.hid ((Blk.new w 27 #[.int .i64 0, .int .i64 0]).alloc (.cells #[.int .i64 0, .int .i64 0] 27))
  have B2 := Lib.hid b2
  have K0 := Lib.hid (((Keep.refl No w).alloc (.cells #[.int .i64 0, .int .i64 0] 27)).alloc (.cells #[.int .i64 0, .int .i64 0] 27))
  clear hz b2
  have hd : (decide (by_ < 0) || decide (3 ≤ by_) || decide (of_ < 0) || decide (3 ≤ of_)) = true := by
    simp only [Bool.or_eq_true, decide_eq_true_eq]
    omega
  clear h
  go_enter Try.func11, Try.ntmps11
  go_wp2_with fail
  all_goals
    exact bodyPost_ret (results_cells rfl _ _ w.heap.size (w.heap.size + 1) 27 #[.int .i64 0, .int .i64 0] #[.int .i64 0, .int .i64 0] (0, 0) _ rfl rfl B1.out B2.out Try.underlying27 rfl info_size_frac info_size_frac) rfl ⟨rfl, K0.out⟩
theorem line_all {base : Nat} {w : World} {mb b : Nat} {l : List Row} (h : Mdl base w mb b l) (by_ of_ : Int) :
    Calls Try.prog 11 #[.pointer (some ⟨mb, 0, none⟩), .int .i64 by_, .int .i64 of_] w fun e w' => LineAll by_ of_ l e ∧ Keep No w w' := by
  unfold LineAll
  by_cases hc : 0 ≤ by_ ∧ by_ < 3 ∧ 0 ≤ of_ ∧ of_ < 3
  · have e1 : (by_.toNat : Int) = by_ := by omega
    have e2 : (of_.toNat : Int) = of_ := by omega
    have h1 := line_any by_.toNat of_.toNat h (by omega) (by omega)
    rw [e1, e2] at h1
    exact h1.mono fun e w' h2 => ⟨by rw [if_pos hc]; exact h2.1, h2.2⟩
  · exact (line_bad w mb by_ of_ hc).mono fun e w' h2 => ⟨by rw [if_neg hc]; exact h2.1, h2.2⟩
theorem lowest_uniq {n d p q p' q' : Int} (hd : 0 < d) (h : Lowest n d p q) (h' : Lowest n d p' q') : p = p' ∧ q = q' := by
  have hg : 0 < (Int.gcd n d : Int) := by
    have := Int.gcd_pos_of_ne_zero_right n (show d ≠ 0 by omega)
    omega
  obtain ⟨_, e1, e2, _⟩ := h
  obtain ⟨_, f1, f2, _⟩ := h'
  exact ⟨Int.eq_of_mul_eq_mul_right (by omega) (e1.trans f1.symm), Int.eq_of_mul_eq_mul_right (by omega) (e2.trans f2.symm)⟩
theorem line_one {i j : Nat} {l l' : List Row} (hp : l.Perm l') {e e' : Ending} (h : LineRet i j l e) (h' : LineRet i j l' e') : e = e' := by
  have hs : ∀ f : Row → Int, sumf f l = sumf f l' := fun f => sumf_perm f hp
  have hd : disc (fun r => r.x i) l = disc (fun r => r.x i) l' := disc_perm _ hp
  have hl := hp.length_eq
  rcases h with ⟨a, rfl⟩ | ⟨a, p, q, p', q', rfl, a1, a2⟩
  · rcases h' with ⟨b, rfl⟩ | ⟨b, _⟩
    · rfl
    · omega
  · rcases h' with ⟨b, rfl⟩ | ⟨b, s, t, s', t', rfl, b1, b2⟩
    · omega
    · rw [← hd, ← hl, ← hs fun r => r.x i * r.x j, ← hs fun r => r.x i, ← hs fun r => r.x j] at b1
      rw [← hd, ← hs fun r => r.x i * r.x j, ← hs fun r => r.x i, ← hs fun r => r.x j, ← hs fun r => r.x i * r.x i] at b2
      obtain ⟨rfl, rfl⟩ := lowest_uniq a a1 b1
      obtain ⟨rfl, rfl⟩ := lowest_uniq a a2 b2
      rfl

/-! ### Tree -/
/-- What Tree gives, whatever it is asked. -/
def TreeAll (w : World) (l : List Row) (deep least : Int) (e : Ending) (w' : World) : Prop :=
  if 0 ≤ deep ∧ deep ≤ 6 ∧ 1 ≤ least then TreeRet w l deep.toNat least e w' else e = .returned (.tuple #[.slice none 0 0, .int .i64 1]) ∧ Keep No w w'
set_option maxHeartbeats 1000000 in
set_option maxRecDepth 100000 in
theorem tree_bad (w : World) (mb : Nat) (deep least : Int) (h : ¬ (0 ≤ deep ∧ deep ≤ 6 ∧ 1 ≤ least)) :
    Calls Try.prog 23 #[.pointer (some ⟨mb, 0, none⟩), .int .i64 deep, .int .i64 least] w fun e w' => e = .returned (.tuple #[.slice none 0 0, .int .i64 1]) ∧ Keep No w w' := by
  have K0 := Lib.hid ((Keep.refl No w).alloc (.cells #[.int .i64 least] 3))
  have f0 := (Blk.new w 3 #[.int .i64 least]).cell 0
  rw [show (#[Value.int .i64 least] : Array Value)[0]? = some (.int .i64 least) from rfl] at f0
  have hd : (decide (deep < 0) || decide (6 < deep) || decide (least < 1)) = true := by
    simp only [Bool.or_eq_true, decide_eq_true_eq]
    omega
  clear h
  go_enter Try.func23, Try.ntmps23
  go_wp2_with fail
  all_goals
    go_ret2
    exact ⟨rfl, K0.out⟩
theorem tree_all {base : Nat} {w : World} {mb b : Nat} {l : List Row} (h : Mdl base w mb b l) (deep least : Int) :
    Calls Try.prog 23 #[.pointer (some ⟨mb, 0, none⟩), .int .i64 deep, .int .i64 least] w (TreeAll w l deep least) := by
  by_cases hc : 0 ≤ deep ∧ deep ≤ 6 ∧ 1 ≤ least
  · have e1 : (deep.toNat : Int) = deep := by omega
    have h1 := tree_full h deep.toNat (by omega) least hc.2.2
    rw [e1] at h1
    exact h1.mono fun e w' h2 => by unfold TreeAll; rw [if_pos hc]; exact h2
  · exact (tree_bad w mb deep least hc).mono fun e w' h2 => by unfold TreeAll; rw [if_neg hc]; exact h2

/-! ### Vote -/
def voteV (x : Row) (k : Int) (l : List Row) (e : Ending) : Prop :=
  if okPt x ∧ 1 ≤ k then (if l.length = 0 then e = .returned (.tuple #[.int .i64 0, .int .i64 3]) else ∃ L, Canon L ∧ (expand L).Perm l ∧ e = .returned (.tuple #[.int .i64 (voteF x L k.toNat), .int .i64 0])) else e = .returned (.tuple #[.int .i64 0, .int .i64 1])
set_option maxHeartbeats 1000000 in
set_option maxRecDepth 100000 in
theorem vote_bad (w : World) (mb : Nat) (x : Row) (k : Int) (h : ¬ (okPt x ∧ 1 ≤ k)) :
    Calls Try.prog 20 #[.pointer (some ⟨mb, 0, none⟩), ptV x, .int .i64 k] w fun e w' => e = .returned (.tuple #[.int .i64 0, .int .i64 1]) ∧ Keep No w w' := by
  have B0 := Blk.new w 31 #[.int .i64 x.a, .int .i64 x.b, .int .i64 x.c]
  have K0 := Lib.hid ((Keep.refl No w).alloc (.cells #[.int .i64 x.a, .int .i64 x.b, .int .i64 x.c] 31))
  have HI := Lib.hid (fun W => inside_any x.a x.b x.c W)
  have f0 := B0.cell 0
  have f1 := B0.cell 1
  have f2 := B0.cell 2
  simp only [List.getElem?_toArray, List.getElem?_cons_zero, List.getElem?_cons_succ] at f0 f1 f2
  have HH := Lib.hid h
  clear h B0
  unfold ptV
  go_enter Try.func20, Try.ntmps20
  go_wp2_with fail
  refine (HI.out _).mono ?_
  rintro e w1 ⟨rfl, hk1⟩
  have HK := Lib.hid (K0.out.trans hk1 (fun _ x => x.elim))
  clear hk1 f0 f1 f2
  by_cases hp : okPt x
  · have hd : decide (okX x.a ∧ okX x.b ∧ okX x.c) = true := decide_eq_true hp
    have hk1 : ¬ 1 ≤ k := fun h => HH.out ⟨hp, h⟩
    have hk : decide (k < 1) = true := decide_eq_true (by omega)
    clear hk1
    rw [hd]
    clear hd hp
    go_wp2_with fail
    go_ret2
    exact ⟨rfl, HK.out⟩
  · have hd : decide (okX x.a ∧ okX x.b ∧ okX x.c) = false := decide_eq_false hp
    rw [hd]
    clear hd hp
    go_wp2_with fail
    go_ret2
    exact ⟨rfl, HK.out⟩
theorem vote_all {base : Nat} {w : World} {mb b : Nat} {l : List Row} (h : Mdl base w mb b l) (x : Row) (k : Int) (hk : k < 9223372036854775808) :
    Calls Try.prog 20 #[.pointer (some ⟨mb, 0, none⟩), ptV x, .int .i64 k] w fun e w' => voteV x k l e ∧ Keep No w w' := by
  by_cases hc : okPt x ∧ 1 ≤ k
  · by_cases h0 : l.length = 0
    · have hl : l = [] := List.length_eq_zero_iff.1 h0
      subst hl
      exact (vote_none x k h hc.1 hc.2).mono fun e w' h2 => ⟨by unfold voteV; rw [if_pos hc, if_pos List.length_nil]; exact h2.1, h2.2⟩
    · exact (vote_any x k h hk hc.1 hc.2 (by omega)).mono fun e w' ⟨L, a1, a2, a3, a4⟩ => ⟨by unfold voteV; rw [if_pos hc, if_neg h0]; exact ⟨L, a1, a2, a3⟩, a4⟩
  · exact (vote_bad w mb x k hc).mono fun e w' h2 => ⟨by unfold voteV; rw [if_neg hc]; exact h2.1, h2.2⟩
theorem vote_same {x : Row} {k : Int} {l l' : List Row} (hp : l.Perm l') {e e' : Ending} (h : voteV x k l e) (h' : voteV x k l' e') : e = e' := by
  unfold voteV at h h'
  by_cases hc : okPt x ∧ 1 ≤ k
  · rw [if_pos hc] at h h'
    by_cases h0 : l.length = 0
    · rw [if_pos h0] at h
      rw [if_pos (by rw [← hp.length_eq]; exact h0)] at h'
      rw [h, h']
    · rw [if_neg h0] at h
      rw [if_neg (by rw [← hp.length_eq]; exact h0)] at h'
      obtain ⟨L, a1, a2, rfl⟩ := h
      obtain ⟨L', b1, b2, rfl⟩ := h'
      rw [canon_one a1 b1 ((a2.trans hp).trans b2.symm)]
  · rw [if_neg hc] at h h'
    rw [h, h']
end Go.Proofs.Ytgabidgpngiecaa

namespace Go.Proofs.Ytgabidgpngiecaa
open Go.RowKit Go.Proofs.YtgabidgpngiecaaKit Go.Proofs.YtgabidgpngiecaaPlain

theorem wf_mid {n : Int} (h : Mid n) : (Lit.int .i64 n).wf = true := by
  unfold Mid at h
  simp [Lit.wf, IntKind.min, IntKind.max, IntKind.signed, IntKind.bits]
  omega
theorem cells_int64 : Try.prog.cellsOf 2 = 1 := by kernel_rfl
theorem cells_frac : Try.prog.cellsOf 27 = 2 := by kernel_rfl
set_option maxRecDepth 100000 in
/-- A fraction compared with itself. -/
theorem eq2 {a0 a1 : Int} (h0 : Mid a0) (h1 : Mid a1) (W : World) :
    (Op.equalIn 10000 27 (.agg #[.int .i64 a0, .int .i64 a1]) (.agg #[.int .i64 a0, .int .i64 a1])).run Try.prog W = .ok true W := by
  have x0 := wf_mid h0
  have x1 := wf_mid h1
  have hk : Try.prog.keyTypeAt 3 27 = true := by kernel_rfl
  obtain ⟨r, e1, e2⟩ := run_equalIn_deep (P := Try.prog) 9997 3 27 hk W 3 3 (.agg #[.int .i64 a0, .int .i64 a1]) (.agg #[.int .i64 a0, .int .i64 a1]) [.int .i64 a0, .int .i64 a1] [.int .i64 a0, .int .i64 a1]
    (by simp [Value.formed, Try.underlying27]; exact cells_frac.symm) (by simp [Value.formed, Try.underlying27]; exact cells_frac.symm)
    (by simp [Value.cells, Program.keyLits, Try.underlying27, Try.underlying2, cells_int64, x0, x1, List.range]; exact cells_frac.symm)
    (by simp [Value.cells, Program.keyLits, Try.underlying27, Try.underlying2, cells_int64, x0, x1, List.range]; exact cells_frac.symm)
  have e : (10000 : Nat) = 9997 + 3 := by omega
  rw [e]
  refine e1.trans ?_
  congr 1
  rw [e2]
theorem line_shape {by_ of_ : Int} {l : List Row} {e : Ending} (hl : l.length ≤ 500) (hok : ∀ r ∈ l, okRow r) (h : LineAll by_ of_ l e) : ∃ P Q P' Q' E, e = .returned (.tuple #[.agg #[.int .i64 P, .int .i64 Q], .agg #[.int .i64 P', .int .i64 Q'], .int .i64 E]) ∧ Mid P ∧ Mid Q ∧ Mid P' ∧ Mid Q' := by
  have m0 : Mid 0 := by unfold Mid; omega
  unfold LineAll at h
  split at h
  · rcases h with ⟨a, rfl⟩ | ⟨a, p, q, p', q', rfl, a1, a2⟩
    · exact ⟨0, 0, 0, 0, 3, rfl, m0, m0, m0, m0⟩
    · have hb := bnd_rows by_.toNat of_.toNat hl hok
      have hm1 := lowest_mid a1 hb.d2 hb.d1 a
      have hm2 := lowest_mid a2 hb.d3 hb.d1 a
      exact ⟨p, q, p', q', 0, rfl, hm1.1, hm1.2, hm2.1, hm2.2⟩
  · exact ⟨0, 0, 0, 0, 1, h, m0, m0, m0, m0⟩
theorem lineall_one {by_ of_ : Int} {l l' : List Row} (hp : l.Perm l') {e e' : Ending} (h : LineAll by_ of_ l e) (h' : LineAll by_ of_ l' e') : e = e' := by
  unfold LineAll at h h'
  split at h
  · rename_i hc
    rw [if_pos hc] at h'
    exact line_one hp h h'
  · rename_i hc
    rw [if_neg hc] at h'
    rw [h, h']
theorem vote_shape {x : Row} {k : Int} {l : List Row} {e : Ending} (h : voteV x k l e) : ∃ v E : Int, e = .returned (.tuple #[.int .i64 v, .int .i64 E]) := by
  unfold voteV at h
  split at h
  · split at h
    · exact ⟨_, _, h⟩
    · obtain ⟨L, _, _, e⟩ := h
      exact ⟨_, _, e⟩
  · exact ⟨_, _, h⟩
theorem guess_perm {x : Row} {l l' : List Row} (hp : l.Perm l') : guessF x l = guessF x l' ∧ guessE x l = guessE x l' := by
  unfold guessF guessE
  rw [hp.length_eq, lkC_perm hp]
  exact ⟨rfl, rfl⟩
/-! ### Trees -/
theorem leaf_fit {L : List (Row × Nat)} (hl : (expand L).length ≤ 500) (hok : ∀ p ∈ L, 0 < p.2 ∧ okRow p.1) : BrFit (leafB L) := by
  intro n hn
  have h1 := totC_len (hok_of hok)
  have h2 := mostC_lt8 (cnt8 (expand L))
  unfold leafB at hn
  simp only [List.mem_cons, List.not_mem_nil, or_false] at hn
  rcases hn with rfl | rfl | rfl | rfl | rfl | rfl <;> omega
theorem treeL_fit (few : Int) : ∀ (left : Nat) (L : List (Row × Nat)) (at_ : Nat), (expand L).length ≤ 500 → (∀ p ∈ L, 0 < p.2 ∧ okRow p.1) → at_ + 2 ^ (left + 1) ≤ 100000 → ∀ b ∈ treeL few left L at_, BrFit b
  | 0, L, _, hl, hok, _ => fun b hb => by
    rw [treeL] at hb
    rw [List.mem_singleton.1 hb]
    exact leaf_fit hl hok
  | left + 1, L, at_, hl, hok, ha => fun b hb => by
    rw [treeL] at hb
    split at hb
    · rw [List.mem_singleton.1 hb]
      exact leaf_fit hl hok
    · rename_i hnl
      have hok1 : (bestTo L 3).ok = true := by
        cases h : (bestTo L 3).ok
        · exact absurd (.inr (.inr (.inr h))) hnl
        · rfl
      obtain ⟨hcol, hcut⟩ := best_some 3 hok1
      obtain ⟨hm1, _⟩ := dropLast_lt (colL_up _ _) hcut
      obtain ⟨q, hq, eq⟩ := colL_mem.1 hm1
      have hx := (hok q hq).2.x (bestTo L 3).col
      have hex := expand_low (c := (bestTo L 3).col) (x := (bestTo L 3).cut) (L := L)
      have okl : ∀ p ∈ lowL (bestTo L 3).col (bestTo L 3).cut L, 0 < p.2 ∧ okRow p.1 := fun p hp => hok p (List.mem_filter.1 hp).1
      have okh : ∀ p ∈ highL (bestTo L 3).col (bestTo L 3).cut L, 0 < p.2 ∧ okRow p.1 := fun p hp => hok p (List.mem_filter.1 hp).1
      have l1 := treeL_len few left (lowL (bestTo L 3).col (bestTo L 3).cut L) (at_ + 1)
      have hp2 : 2 ^ (left + 1 + 1) = 2 ^ (left + 1) * 2 := Nat.pow_succ ..
      rcases List.mem_cons.1 hb with rfl | hb
      · intro n hn
        have h1 := totC_len (hok_of hok)
        simp only [List.mem_cons, List.not_mem_nil, or_false] at hn
        rcases hn with rfl | rfl | rfl | rfl | rfl | rfl <;> omega
      · rcases List.mem_append.1 hb with hb | hb
        · exact treeL_fit few left _ _ (by omega) okl (by omega) b hb
        · exact treeL_fit few left _ _ (by omega) okh (by omega) b hb
end Go.Proofs.Ytgabidgpngiecaa

namespace Go.Proofs.Ytgabidgpngiecaa
open Go.RowKit Go.Proofs.YtgabidgpngiecaaKit Go.Proofs.YtgabidgpngiecaaPlain

theorem canon_exists {base : Nat} {w : World} {mb b : Nat} {l : List Row} (h : Mdl base w mb b l) : ∃ L, Canon L ∧ (expand L).Perm l := by
  obtain ⟨s, hs, hp, _⟩ := h
  have HD : s.Pairwise (fun p q => p.1 ≠ q.1) := by
    have h0 := hs.map.nodup
    rw [List.pairwise_map] at h0
    exact h0.imp (fun h e => h (by unfold entV; rw [e]))
  have hperm := List.mergeSort_perm s (fun p q => !decide (lexLt q.1 p.1))
  refine ⟨s.mergeSort (fun p q => !decide (lexLt q.1 p.1)), ⟨?_, ?_, fun p hp => (hs.ok p (hperm.mem_iff.1 hp)).1⟩, (expand_perm hperm).trans hp⟩
  · have h1 := List.pairwise_mergeSort (le := fun p q : Row × Nat => !decide (lexLt q.1 p.1)) (fun a b c h1 h2 => by
      simp only [Bool.not_eq_true', decide_eq_false_iff_not] at *
      unfold lexLt at *
      omega) (fun a b => by
      simp only [Bool.or_eq_true, Bool.not_eq_true', decide_eq_false_iff_not]
      unfold lexLt
      omega) s
    exact h1.imp (fun h => by simpa using h)
  · exact (hperm.symm.pairwise_iff (fun h e => h e.symm)).1 HD
theorem image_str {base : Nat} {w : World} {mb b : Nat} {l : List Row} {L0 : List (Row × Nat)} (h : Mdl base w mb b l) (hc : Canon L0) (hp : (expand L0).Perm l) :
    Calls Try.prog 17 #[.pointer (some ⟨mb, 0, none⟩)] w fun e w' => ∃ A n c, e = .returned (.slice A n c) ∧ Bytes 0 w' A n (imgL L0) ∧ Keep No w w' :=
  (image_any h).mono fun _ _ ⟨v, L, e, h1, h2, h3, h4⟩ => by
    obtain ⟨A, c, rfl, _⟩ := h3.shape
    obtain rfl := canon_one h1 hc (h2.trans hp.symm)
    exact ⟨A, _, c, e, h3.bytes, h4⟩
theorem cells_a8 : Try.prog.cellsOf 58 = 8 := by kernel_rfl
set_option maxRecDepth 100000 in
/-- Counts compared with themselves. -/
theorem eq8s {c : Nat → Nat} (hc : ∀ i, c i ≤ 1000) (W : World) :
    (Op.equalIn 10000 58 (labV c) (labV c)).run Try.prog W = .ok true W := by
  have hw : ∀ i, (Lit.int .i64 (c i : Nat)).wf = true := fun i => wf_small (by have := hc i; omega) (by have := hc i; omega)
  have x0 := hw 0
  have x1 := hw 1
  have x2 := hw 2
  have x3 := hw 3
  have x4 := hw 4
  have x5 := hw 5
  have x6 := hw 6
  have x7 := hw 7
  have hk : Try.prog.keyTypeAt 3 58 = true := by kernel_rfl
  unfold labV
  generalize ((c 0 : Nat) : Int) = a0 at *
  generalize ((c 1 : Nat) : Int) = a1 at *
  generalize ((c 2 : Nat) : Int) = a2 at *
  generalize ((c 3 : Nat) : Int) = a3 at *
  generalize ((c 4 : Nat) : Int) = a4 at *
  generalize ((c 5 : Nat) : Int) = a5 at *
  generalize ((c 6 : Nat) : Int) = a6 at *
  generalize ((c 7 : Nat) : Int) = a7 at *
  clear hw hc
  obtain ⟨r, h1, h2⟩ := run_equalIn_deep (P := Try.prog) 9997 3 58 hk W 3 3 (.agg #[.int .i64 a0, .int .i64 a1, .int .i64 a2, .int .i64 a3, .int .i64 a4, .int .i64 a5, .int .i64 a6, .int .i64 a7]) (.agg #[.int .i64 a0, .int .i64 a1, .int .i64 a2, .int .i64 a3, .int .i64 a4, .int .i64 a5, .int .i64 a6, .int .i64 a7]) [.int .i64 a0, .int .i64 a1, .int .i64 a2, .int .i64 a3, .int .i64 a4, .int .i64 a5, .int .i64 a6, .int .i64 a7] [.int .i64 a0, .int .i64 a1, .int .i64 a2, .int .i64 a3, .int .i64 a4, .int .i64 a5, .int .i64 a6, .int .i64 a7]
    (by simp [Value.formed, Try.underlying58]; exact cells_a8.symm) (by simp [Value.formed, Try.underlying58]; exact cells_a8.symm)
    (by simp [Value.cells, Program.keyLits, Try.underlying58, Try.underlying3, cells_int, x0, x1, x2, x3, x4, x5, x6, x7, List.range, List.range.loop]; exact cells_a8.symm)
    (by simp [Value.cells, Program.keyLits, Try.underlying58, Try.underlying3, cells_int, x0, x1, x2, x3, x4, x5, x6, x7, List.range, List.range.loop]; exact cells_a8.symm)
  have e : (10000 : Nat) = 9997 + 3 := by omega
  rw [e]
  refine h1.trans ?_
  congr 1
  rw [h2]
def askV (x : Row) (k by_ of_ deep least : Int) : Value := .agg #[.int .i64 x.a, .int .i64 x.b, .int .i64 x.c, .int .i64 k, .int .i64 by_, .int .i64 of_, .int .i64 deep, .int .i64 least]
/-- What equal holds: two models, the question. -/
structure EqS (w W : World) (base base' ma ba mb bb : Nat) (l l' : List Row) (x : Row) (k by_ of_ deep least : Int) : Prop where
  a : Mdl base W ma ba l
  b : Mdl base' W mb bb l'
  q : Blk W w.heap.size 64 #[.int .i64 x.a, .int .i64 x.b, .int .i64 x.c, .int .i64 k, .int .i64 by_, .int .i64 of_, .int .i64 deep, .int .i64 least]
  kp : Keep No w W
theorem EqS.new_ {w W W' : World} {base base' ma ba mb bb : Nat} {l l' : List Row} {x : Row} {k by_ of_ deep least : Int} (h : EqS w W base base' ma ba mb bb l l' x k by_ of_ deep least) (hk : Keep No W W') : EqS w W' base base' ma ba mb bb l l' x k by_ of_ deep least := ⟨h.a.new_ hk, h.b.new_ hk, h.q.keep hk (fun x => x), h.kp.trans hk (fun _ x => x.elim)⟩
theorem two_fracs (W : World) (P Q P' Q' : Int) : Blk ((W.alloc (.cells #[.int .i64 P, .int .i64 Q] 27)).alloc (.cells #[.int .i64 P', .int .i64 Q'] 27)) W.heap.size 27 #[.int .i64 P, .int .i64 Q] ∧ Blk ((W.alloc (.cells #[.int .i64 P, .int .i64 Q] 27)).alloc (.cells #[.int .i64 P', .int .i64 Q'] 27)) (W.heap.size + 1) 27 #[.int .i64 P', .int .i64 Q'] ∧ Keep No W ((W.alloc (.cells #[.int .i64 P, .int .i64 Q] 27)).alloc (.cells #[.int .i64 P', .int .i64 Q'] 27)) := by
  have hz : (W.alloc (.cells #[.int .i64 P, .int .i64 Q] 27)).heap.size = W.heap.size + 1 := by simp
  have b2 := Blk.new (W.alloc (.cells #[.int .i64 P, .int .i64 Q] 27)) 27 #[.int .i64 P', .int .i64 Q']
  rw [hz] at b2
  exact ⟨(Blk.new W _ _).alloc _, b2, ((Keep.refl No W).alloc _).alloc _⟩
/-- What Tree gives, as a function of the sorted rows and their number. -/
def treeT (L0 : List (Row × Nat)) (n : Nat) (deep least : Int) : List Br := if (0 ≤ deep ∧ deep ≤ 6 ∧ 1 ≤ least) ∧ n ≠ 0 then treeL least deep.toNat L0 0 else []
def treeEr (n : Nat) (deep least : Int) : Int := if 0 ≤ deep ∧ deep ≤ 6 ∧ 1 ≤ least then (if n = 0 then 3 else 0) else 1
theorem tree_got {w w' : World} {l : List Row} {L0 : List (Row × Nat)} {deep least : Int} {e : Ending} (hc : Canon L0) (hp : (expand L0).Perm l) (h : TreeAll w l deep least e w') :
    ∃ A c, e = .returned (.tuple #[.slice A (treeT L0 l.length deep least).length c, .int .i64 (treeEr l.length deep least)]) ∧ BOwn w.heap.size w' (.slice A (treeT L0 l.length deep least).length c) (treeT L0 l.length deep least) ∧ Keep No w w' := by
  unfold TreeAll at h
  unfold treeT treeEr
  by_cases hv : 0 ≤ deep ∧ deep ≤ 6 ∧ 1 ≤ least
  · rw [if_pos hv] at h
    rcases h with ⟨h0, rfl, hk⟩ | ⟨h0, L, ov, p1, c1, ok1, rfl, ho, hk⟩
    · have hl : l.length = 0 := by rw [h0]; rfl
      rw [if_neg (fun h => h.2 hl), if_pos hv, if_pos hl]
      exact ⟨none, 0, rfl, World.ownsRow_nil _ _ _ _, hk⟩
    · have hl : l.length ≠ 0 := fun e => h0 (List.length_eq_zero_iff.1 e)
      obtain rfl := canon_one c1 hc (p1.trans hp.symm)
      rw [if_pos ⟨hv, hl⟩, if_pos hv, if_neg hl]
      obtain ⟨A, c, rfl, _⟩ := own_shape ho
      exact ⟨A, c, rfl, ho, hk⟩
  · rw [if_neg hv] at h
    rw [if_neg (fun h => hv h.1), if_neg hv]
    exact ⟨none, 0, h.1, World.ownsRow_nil _ _ _ _, h.2⟩
theorem treeT_fit {l : List Row} {L0 : List (Row × Nat)} {deep least : Int} (hc : Canon L0) (hp : (expand L0).Perm l) (hl : l.length ≤ 500) (hok : ∀ r ∈ l, okRow r) : (∀ b ∈ treeT L0 l.length deep least, BrFit b) ∧ (treeT L0 l.length deep least).length ≤ 200 := by
  unfold treeT
  split
  · rename_i hv
    have hok' : ∀ p ∈ L0, 0 < p.2 ∧ okRow p.1 := fun p hpm => ⟨hc.pos p hpm, hok _ (hp.mem_iff.1 (mem_expand.2 ⟨p.2, hpm, hc.pos p hpm⟩))⟩
    have h2 : 2 ^ (deep.toNat + 1) ≤ 2 ^ 7 := Nat.pow_le_pow_right (by omega) (by omega)
    have h3 := treeL_len least deep.toNat L0 0
    exact ⟨treeL_fit least deep.toNat L0 0 (by rw [hp.length_eq]; exact hl) hok' (by omega), by omega⟩
  · exact ⟨fun b hb => absurd hb (List.not_mem_nil), Nat.zero_le _⟩
set_option maxHeartbeats 8000000 in
set_option maxRecDepth 100000 in
theorem equal_any {w : World} {base base' ma ba mb bb : Nat} {l l' : List Row} (h : Mdl base w ma ba l) (h' : Mdl base' w mb bb l') (hp : l.Perm l') (x : Row) (k by_ of_ deep least : Int) (hk : k < 9223372036854775808) :
    Calls Try.prog 26 #[.pointer (some ⟨ma, 0, none⟩), .pointer (some ⟨mb, 0, none⟩), askV x k by_ of_ deep least] w fun e w' => e = .returned (.bool true) ∧ Keep No w w' := by
  have K0 := (Keep.refl No w).alloc (.cells #[.int .i64 x.a, .int .i64 x.b, .int .i64 x.c, .int .i64 k, .int .i64 by_, .int .i64 of_, .int .i64 deep, .int .i64 least] 64)
  have H0 := Lib.hid (show EqS w (w.alloc (.cells #[.int .i64 x.a, .int .i64 x.b, .int .i64 x.c, .int .i64 k, .int .i64 by_, .int .i64 of_, .int .i64 deep, .int .i64 least] 64)) base base' ma ba mb bb l l' x k by_ of_ deep least from ⟨h.new_ K0, h'.new_ K0, Blk.new w _ _, K0⟩)
  have HP := Lib.hid (show _ ∧ _ from ⟨hp, hk⟩)
  have HLO := Lib.hid (show _ ∧ _ from ⟨h.len, h.okay⟩)
  obtain ⟨L0, hc0, hp0⟩ := canon_exists h
  have HC0 := Lib.hid (show _ ∧ _ ∧ _ from ⟨hc0, hp0, hp0.trans hp⟩)
  clear h h' hp hk K0 hc0 hp0
  have HL1 := Lib.hid (line_all H0.out.a by_ of_)
  have q4 := H0.out.q.cell 4
  have q5 := H0.out.q.cell 5
  simp only [List.getElem?_toArray, List.getElem?_cons_zero, List.getElem?_cons_succ] at q4 q5
  unfold askV
  go_enter Try.func26, Try.ntmps26
  go_wp2_with fail
  generalize w.alloc (.cells #[.int .i64 x.a, .int .i64 x.b, .int .i64 x.c, .int .i64 k, .int .i64 by_, .int .i64 of_, .int .i64 deep, .int .i64 least] 64) = w0 at *
  clear q4 q5
  refine HL1.out.mono ?_
  rintro e w1 ⟨hl1, hk1⟩
  obtain ⟨P, Q, P', Q', E, he, mp⟩ := line_shape HLO.out.1 HLO.out.2 hl1
  have HLA := Lib.hid hl1
  have HE := Lib.hid he
  have HM := Lib.hid mp
  have H1 := Lib.hid (H0.out.new_ hk1)
  have H2 := Lib.hid (H1.out.new_ (two_fracs w1 P Q P' Q').2.2)
  have HF1 := Lib.hid (show _ ∧ _ from ⟨(two_fracs w1 P Q P' Q').1, (two_fracs w1 P Q P' Q').2.1⟩)
  have q4 := H2.out.q.cell 4
  have q5 := H2.out.q.cell 5
  simp only [List.getElem?_toArray, List.getElem?_cons_zero, List.getElem?_cons_succ] at q4 q5
  have HL2 := Lib.hid (line_all H2.out.b by_ of_)
  rw [he]
  clear hl1 hk1 HL1 he mp H1 H0
  go_wp2_with fail
  clear q4 q5
  generalize (w1.alloc (.cells #[.int .i64 P, .int .i64 Q] 27)).alloc (.cells #[.int .i64 P', .int .i64 Q'] 27) = w2 at *
  generalize w1.heap.size = n1 at *
  refine HL2.out.mono ?_
  rintro e2 w3 ⟨hl2, hk3⟩
  have he2 := (lineall_one HP.out.1 HLA.out hl2).symm.trans HE.out
  rw [he2]
  have H3 := Lib.hid (H2.out.new_ hk3)
  have H4 := Lib.hid (H3.out.new_ (two_fracs w3 P Q P' Q').2.2)
  have HF2 := Lib.hid (show _ ∧ _ from ⟨(two_fracs w3 P Q P' Q').1, (two_fracs w3 P Q P' Q').2.1⟩)
  have HF3 := Lib.hid (show _ ∧ _ from ⟨(HF1.out.1.keep hk3 (fun x => x)).keep (two_fracs w3 P Q P' Q').2.2 (fun x => x), (HF1.out.2.keep hk3 (fun x => x)).keep (two_fracs w3 P Q P' Q').2.2 (fun x => x)⟩)
  clear hl2 hk3 he2 HL2 HLA HE H2 H3 HF1
  have a0 := HF3.out.1.cell 0
  have a1 := HF3.out.1.cell 1
  have a2 := HF3.out.2.cell 0
  have a3 := HF3.out.2.cell 1
  have b0 := HF2.out.1.cell 0
  have b1 := HF2.out.1.cell 1
  have b2 := HF2.out.2.cell 0
  have b3 := HF2.out.2.cell 1
  simp only [List.getElem?_toArray, List.getElem?_cons_zero, List.getElem?_cons_succ] at a0 a1 a2 a3 b0 b1 b2 b3
  have e1 := fun W => eq2 HM.out.1 HM.out.2.1 W
  have e2 := fun W => eq2 HM.out.2.2.1 HM.out.2.2.2 W
  have q6 := H4.out.q.cell 6
  have q7 := H4.out.q.cell 7
  simp only [List.getElem?_toArray, List.getElem?_cons_zero, List.getElem?_cons_succ] at q6 q7
  have HT1 := Lib.hid (tree_all H4.out.a deep least)
  go_wp2_with fail
  clear a0 a1 a2 a3 b0 b1 b2 b3 e1 e2 q6 q7
  generalize (w3.alloc (.cells #[.int .i64 P, .int .i64 Q] 27)).alloc (.cells #[.int .i64 P', .int .i64 Q'] 27) = w4 at *
  refine HT1.out.mono ?_
  rintro e w5 ht
  obtain ⟨A1, c1, he, ho1, hk5⟩ := tree_got HC0.out.1 HC0.out.2.1 ht
  subst he
  obtain ⟨TT, hTT⟩ : ∃ TT, TT = treeT L0 l.length deep least := ⟨_, rfl⟩
  obtain ⟨TE, hTE⟩ : ∃ TE, TE = treeEr l.length deep least := ⟨_, rfl⟩
  rw [← hTT] at ho1
  rw [← hTT, ← hTE]
  have HTT := Lib.hid (show TT = treeT L0 l'.length deep least ∧ TE = treeEr l'.length deep least from by rw [← HP.out.1.length_eq]; exact ⟨hTT, hTE⟩)
  have HTF := Lib.hid (show (∀ b ∈ TT, BrFit b) ∧ TT.length ≤ 200 from by rw [hTT]; exact treeT_fit HC0.out.1 HC0.out.2.1 HLO.out.1 HLO.out.2)
  have HO1 := Lib.hid ho1
  have H5 := Lib.hid (H4.out.new_ hk5)
  have HT2 := Lib.hid (tree_all H5.out.b deep least)
  have q6 := H5.out.q.cell 6
  have q7 := H5.out.q.cell 7
  simp only [List.getElem?_toArray, List.getElem?_cons_zero, List.getElem?_cons_succ] at q6 q7
  clear ht hTT hTE ho1 hk5 HT1 H4 HF2 HF3
  go_wp2_with fail
  clear q6 q7
  refine HT2.out.mono ?_
  rintro e w6 ht
  obtain ⟨A2, c2, he, ho2, hk6⟩ := tree_got HC0.out.1 HC0.out.2.2 ht
  rw [← HTT.out.1, ← HTT.out.2] at he
  rw [← HTT.out.1] at ho2
  subst he
  have H6 := Lib.hid (H5.out.new_ hk6)
  have HS6 := Lib.hid (same_br (HO1.out.keep hk6 (fun _ _ x => x)) ho2 HTF.out.1 HTF.out.2)
  clear ht ho2 hk6 HT2 H5 HO1 HTT
  go_wp2_with fail
  refine HS6.out.mono ?_
  rintro e w7 ⟨rfl, hk7⟩
  have H7 := Lib.hid (H6.out.new_ hk7)
  have HV1 := Lib.hid (vote_all H7.out.a x k HP.out.2)
  have q0 := H7.out.q.cell 0
  have q1 := H7.out.q.cell 1
  have q2 := H7.out.q.cell 2
  have q3 := H7.out.q.cell 3
  simp only [List.getElem?_toArray, List.getElem?_cons_zero, List.getElem?_cons_succ] at q0 q1 q2 q3
  unfold ptV at HV1
  clear hk7 H6 HS6 HTF
  go_wp2_with fail
  clear q0 q1 q2 q3
  refine HV1.out.mono ?_
  rintro e w8 ⟨hv1, hk8⟩
  obtain ⟨v, ve, he⟩ := vote_shape hv1
  have HVA := Lib.hid hv1
  have HVE := Lib.hid he
  rw [he]
  have H8 := Lib.hid (H7.out.new_ hk8)
  have HV2 := Lib.hid (vote_all H8.out.b x k HP.out.2)
  have q0 := H8.out.q.cell 0
  have q1 := H8.out.q.cell 1
  have q2 := H8.out.q.cell 2
  have q3 := H8.out.q.cell 3
  simp only [List.getElem?_toArray, List.getElem?_cons_zero, List.getElem?_cons_succ] at q0 q1 q2 q3
  unfold ptV at HV2
  clear hv1 he hk8 HV1 H7
  go_wp2_with fail
  clear q0 q1 q2 q3
  refine HV2.out.mono ?_
  rintro e w9 ⟨hv2, hk9⟩
  rw [(vote_same HP.out.1 HVA.out hv2).symm.trans HVE.out]
  have H9 := Lib.hid (H8.out.new_ hk9)
  have HG1 := Lib.hid (guess_any H9.out.a x)
  have q0 := H9.out.q.cell 0
  have q1 := H9.out.q.cell 1
  have q2 := H9.out.q.cell 2
  simp only [List.getElem?_toArray, List.getElem?_cons_zero, List.getElem?_cons_succ] at q0 q1 q2
  unfold ptV at HG1
  clear hv2 hk9 HV2 H8 HVA HVE
  obtain ⟨gf, hgf⟩ : ∃ gf, gf = guessF x l := ⟨_, rfl⟩
  obtain ⟨ge, hge⟩ : ∃ ge, ge = guessE x l := ⟨_, rfl⟩
  have HGP := Lib.hid (show guessF x l' = gf ∧ guessE x l' = ge from ⟨by rw [hgf, (guess_perm HP.out.1).1], by rw [hge, (guess_perm HP.out.1).2]⟩)
  rw [← hgf, ← hge] at HG1
  clear hgf hge
  go_wp2_with fail
  clear q0 q1 q2
  refine HG1.out.mono ?_
  rintro e w10 ⟨rfl, hk10⟩
  have H10 := Lib.hid (H9.out.new_ hk10)
  have HG2 := Lib.hid (guess_any H10.out.b x)
  have q0 := H10.out.q.cell 0
  have q1 := H10.out.q.cell 1
  have q2 := H10.out.q.cell 2
  simp only [List.getElem?_toArray, List.getElem?_cons_zero, List.getElem?_cons_succ] at q0 q1 q2
  unfold ptV at HG2
  rw [HGP.out.1, HGP.out.2] at HG2
  clear hk10 HG1 H9
  go_wp2_with fail
  clear q0 q1 q2
  refine HG2.out.mono ?_
  rintro e w11 ⟨rfl, hk11⟩
  have H11 := Lib.hid (H10.out.new_ hk11)
  clear hk11 HG2 H10 HGP
  go_wp2_with fail
  have HNa := Lib.hid (fun W (hW : Keep No w11 W) => mlen_any (H11.out.a.new_ hW))
  have HNb := Lib.hid (fun W (hW : Keep No w11 W) => mlen_any (H11.out.b.new_ hW))
  have HCa := Lib.hid (fun W (hW : Keep No w11 W) => mcounts_any (H11.out.a.new_ hW))
  have HCb := Lib.hid (fun W (hW : Keep No w11 W) => mcounts_any (H11.out.b.new_ hW))
  have HIa := Lib.hid (fun W (hW : Keep No w11 W) => image_str (H11.out.a.new_ hW) HC0.out.1 HC0.out.2.1)
  have HIb := Lib.hid (fun W (hW : Keep No w11 W) => image_str (H11.out.b.new_ hW) HC0.out.1 HC0.out.2.2)
  rw [← HP.out.1.length_eq] at HNb
  rw [← cnt8_perm HP.out.1] at HCb
  have hc8 : ∀ i, cnt8 l i ≤ 1000 := fun i => by
    have h1 := cntL_le l (i : Int)
    have h2 := HLO.out.1
    unfold cnt8
    omega
  have he8 := fun W => eq8s hc8 W
  generalize cnt8 l = cn at *
  generalize imgL L0 = im at *
  generalize l.length = ln at *
  unfold labV at HCa HCb he8
  have HKW := Lib.hid H11.out.kp
  have K0 := Lib.hid ((Keep.refl No w11).drew)
  clear H11 hc8 HC0 HP HLO
  refine wp_region_noPanic ?_
  refine wp_region_held_drew (S := fun W => Keep No w11 W) (by kernel_rfl) K0.out (fun hHeld => ?_)
  refine wpAnyH_take (i := 0) (oi := ({ dst := some 121, op := Op.move (Operand.tmp 18), type := 28, pos := "law.go:104", after := #[], guard := none } : Oper)) (v := ?_) rfl (by kernel_rfl) (by kernel_rfl) (by kernel_rfl) (fun _ _ _ h => h) (Or.inl ⟨by rfl, ?_⟩) (by assumption) ?_
  rotate_left
  · (intro w hSw; (try dsimp only at hSw); go_simp; try with_reducible rfl)
  (try simp only [Act.put, List.setIfInBounds_toArray, List.set_cons_zero, List.set_cons_succ])
  refine wpAnyH_take (i := 1) (oi := ({ dst := some 122, op := Op.move (Operand.tmp 20), type := 28, pos := "law.go:104", after := #[], guard := none } : Oper)) (v := ?_) rfl (by kernel_rfl) (by kernel_rfl) (by kernel_rfl) (fun _ _ _ h => h) (Or.inl ⟨by rfl, ?_⟩) (by assumption) ?_
  rotate_left
  · (intro w hSw; (try dsimp only at hSw); go_simp; try with_reducible rfl)
  (try simp only [Act.put, List.setIfInBounds_toArray, List.set_cons_zero, List.set_cons_succ])
  refine wpAnyH_take (i := 2) (oi := ({ dst := some 123, op := Op.binOp BinOp.eql 28 (Operand.tmp 121) (Operand.tmp 122) 28, type := 4, pos := "law.go:104", after := #[{ on := 0, ground := Ground.data }, { on := 1, ground := Ground.data }], guard := none } : Oper)) (v := ?_) rfl (by kernel_rfl) (by kernel_rfl) (by kernel_rfl) (fun _ _ _ h => h) (Or.inl ⟨by rfl, ?_⟩) (by assumption) ?_
  rotate_left
  · (intro w hSw; (try dsimp only at hSw); go_simp; try with_reducible rfl)
  (try simp only [Act.put, List.setIfInBounds_toArray, List.set_cons_zero, List.set_cons_succ])
  refine wpAnyH_take (i := 3) (oi := ({ dst := some 124, op := Op.move (Operand.tmp 123), type := 4, pos := "law.go:104", after := #[{ on := 2, ground := Ground.data }], guard := none } : Oper)) (v := ?_) rfl (by kernel_rfl) (by kernel_rfl) (by kernel_rfl) (fun _ _ _ h => h) (Or.inl ⟨by rfl, ?_⟩) (by assumption) ?_
  rotate_left
  · (intro w hSw; (try dsimp only at hSw); go_simp; try with_reducible rfl)
  (try simp only [Act.put, List.setIfInBounds_toArray, List.set_cons_zero, List.set_cons_succ])
  refine wpAnyH_take (i := 4) (oi := ({ dst := some 125, op := Op.move (Operand.tmp 17), type := 3, pos := "law.go:104", after := #[{ on := 3, ground := Ground.guard }], guard := some (3, true) } : Oper)) (v := ?_) rfl (by kernel_rfl) (by kernel_rfl) (by kernel_rfl) (fun _ _ _ h => h) (Or.inl ⟨by rfl, ?_⟩) (by assumption) ?_
  rotate_left
  · (intro w hSw; (try dsimp only at hSw); go_simp; try with_reducible rfl)
  (try simp only [Act.put, List.setIfInBounds_toArray, List.set_cons_zero, List.set_cons_succ])
  refine wpAnyH_take (i := 5) (oi := ({ dst := some 126, op := Op.move (Operand.tmp 19), type := 3, pos := "law.go:104", after := #[{ on := 3, ground := Ground.guard }], guard := some (3, true) } : Oper)) (v := ?_) rfl (by kernel_rfl) (by kernel_rfl) (by kernel_rfl) (fun _ _ _ h => h) (Or.inl ⟨by rfl, ?_⟩) (by assumption) ?_
  rotate_left
  · (intro w hSw; (try dsimp only at hSw); go_simp; try with_reducible rfl)
  (try simp only [Act.put, List.setIfInBounds_toArray, List.set_cons_zero, List.set_cons_succ])
  refine wpAnyH_take (i := 6) (oi := ({ dst := some 127, op := Op.binOp BinOp.eql 3 (Operand.tmp 125) (Operand.tmp 126) 3, type := 4, pos := "law.go:104", after := #[{ on := 4, ground := Ground.data }, { on := 5, ground := Ground.data }, { on := 3, ground := Ground.guard }], guard := some (3, true) } : Oper)) (v := ?_) rfl (by kernel_rfl) (by kernel_rfl) (by kernel_rfl) (fun _ _ _ h => h) (Or.inl ⟨by rfl, ?_⟩) (by assumption) ?_
  rotate_left
  · (intro w hSw; (try dsimp only at hSw); go_simp; try with_reducible rfl)
  (try simp only [Act.put, List.setIfInBounds_toArray, List.set_cons_zero, List.set_cons_succ])
  refine wpAnyH_take (i := 7) (oi := ({ dst := some 128, op := Op.pick (Operand.tmp 124) (Operand.tmp 127) (Operand.const (Value.bool false)), type := 4, pos := "law.go:104", after := #[{ on := 3, ground := Ground.data }, { on := 6, ground := Ground.data }], guard := none } : Oper)) (v := ?_) rfl (by kernel_rfl) (by kernel_rfl) (by kernel_rfl) (fun _ _ _ h => h) (Or.inl ⟨by rfl, ?_⟩) (by assumption) ?_
  rotate_left
  · (intro w hSw; (try dsimp only at hSw); go_simp; try with_reducible rfl)
  (try simp only [Act.put, List.setIfInBounds_toArray, List.set_cons_zero, List.set_cons_succ])
  refine wpAnyH_take (i := 8) (oi := ({ dst := some 129, op := Op.move (Operand.tmp 128), type := 4, pos := "law.go:104", after := #[{ on := 7, ground := Ground.data }, { on := 3, ground := Ground.chain }], guard := none } : Oper)) (v := ?_) rfl (by kernel_rfl) (by kernel_rfl) (by kernel_rfl) (fun _ _ _ h => h) (Or.inl ⟨by rfl, ?_⟩) (by assumption) ?_
  rotate_left
  · (intro w hSw; (try dsimp only at hSw); go_simp; try with_reducible rfl)
  (try simp only [Act.put, List.setIfInBounds_toArray, List.set_cons_zero, List.set_cons_succ])
  refine wpAnyH_take (i := 9) (oi := ({ dst := some 130, op := Op.move (Operand.tmp 0), type := 23, pos := "law.go:104", after := #[{ on := 8, ground := Ground.guard }], guard := some (8, true) } : Oper)) (v := ?_) rfl (by kernel_rfl) (by kernel_rfl) (by kernel_rfl) (fun _ _ _ h => h) (Or.inl ⟨by rfl, ?_⟩) (by assumption) ?_
  rotate_left
  · (intro w hSw; (try dsimp only at hSw); go_simp; try with_reducible rfl)
  (try simp only [Act.put, List.setIfInBounds_toArray, List.set_cons_zero, List.set_cons_succ])
  refine wpAnyH_take (i := 11) (oi := ({ dst := some 132, op := Op.move (Operand.tmp 1), type := 23, pos := "law.go:104", after := #[{ on := 8, ground := Ground.guard }], guard := some (8, true) } : Oper)) (v := ?_) rfl (by kernel_rfl) (by kernel_rfl) (by kernel_rfl) (fun _ _ _ h => h) (Or.inl ⟨by rfl, ?_⟩) (by assumption) ?_
  rotate_left
  · (intro w hSw; (try dsimp only at hSw); go_simp; try with_reducible rfl)
  (try simp only [Act.put, List.setIfInBounds_toArray, List.set_cons_zero, List.set_cons_succ])
  refine wpAnyH_ready (rs := [10]) (by kernel_rfl) (by simp) ?_
  refine AllReadyH.cons (o := ({ dst := some 131, op := Op.call { callee := Callee.value (Operand.func 18), args := #[Operand.tmp 130], argTypes := #[23] }, type := 3, pos := "law.go:104", after := #[{ on := 9, ground := Ground.data }, { on := 8, ground := Ground.chain }, { on := 8, ground := Ground.guard }], guard := some (8, true) } : Oper)) rfl (fun K hK => ?_) AllReadyH.nil
  go_simp
  go_at_call_of 18 (Value.pointer (some (⟨ma, 0, none⟩ : Addr))); refine (HNa.out _ K0.out).mono ?_; rintro e w' ⟨rfl, rfl⟩
  go_wp2_with fail
  refine hK.out _ _ (show Keep No w11 _ from K0.out) (fun hH2 => ?_)
  clear hHeld hK
  have hHeld := hH2
  clear hH2 K
  (try simp only [Act.put, List.setIfInBounds_toArray, List.set_cons_zero, List.set_cons_succ])
  refine wpAnyH_ready (rs := [12]) (by kernel_rfl) (by simp) ?_
  refine AllReadyH.cons (o := ({ dst := some 133, op := Op.call { callee := Callee.value (Operand.func 18), args := #[Operand.tmp 132], argTypes := #[23] }, type := 3, pos := "law.go:104", after := #[{ on := 11, ground := Ground.data }, { on := 10, ground := Ground.chain }, { on := 8, ground := Ground.guard }], guard := some (8, true) } : Oper)) rfl (fun K hK => ?_) AllReadyH.nil
  go_simp
  go_at_call_of 18 (Value.pointer (some (⟨mb, 0, none⟩ : Addr))); refine (HNb.out _ K0.out).mono ?_; rintro e w' ⟨rfl, rfl⟩
  go_wp2_with fail
  refine hK.out _ _ (show Keep No w11 _ from K0.out) (fun hH2 => ?_)
  clear hHeld hK
  have hHeld := hH2
  clear hH2 K
  (try simp only [Act.put, List.setIfInBounds_toArray, List.set_cons_zero, List.set_cons_succ])
  refine wpAnyH_take (i := 13) (oi := ({ dst := some 134, op := Op.binOp BinOp.eql 3 (Operand.tmp 131) (Operand.tmp 133) 3, type := 4, pos := "law.go:104", after := #[{ on := 10, ground := Ground.data }, { on := 12, ground := Ground.data }, { on := 8, ground := Ground.guard }], guard := some (8, true) } : Oper)) (v := ?_) rfl (by kernel_rfl) (by kernel_rfl) (by kernel_rfl) (fun _ _ _ h => h) (Or.inl ⟨by rfl, ?_⟩) (by assumption) ?_
  rotate_left
  · (intro w hSw; (try dsimp only at hSw); go_simp; try with_reducible rfl)
  (try simp only [Act.put, List.setIfInBounds_toArray, List.set_cons_zero, List.set_cons_succ])
  refine wpAnyH_take (i := 14) (oi := ({ dst := some 135, op := Op.pick (Operand.tmp 129) (Operand.tmp 134) (Operand.const (Value.bool false)), type := 4, pos := "law.go:104", after := #[{ on := 8, ground := Ground.data }, { on := 13, ground := Ground.data }], guard := none } : Oper)) (v := ?_) rfl (by kernel_rfl) (by kernel_rfl) (by kernel_rfl) (fun _ _ _ h => h) (Or.inl ⟨by rfl, ?_⟩) (by assumption) ?_
  rotate_left
  · (intro w hSw; (try dsimp only at hSw); go_simp; try with_reducible rfl)
  (try simp only [Act.put, List.setIfInBounds_toArray, List.set_cons_zero, List.set_cons_succ])
  refine wpAnyH_take (i := 15) (oi := ({ dst := some 136, op := Op.move (Operand.tmp 135), type := 4, pos := "law.go:104", after := #[{ on := 14, ground := Ground.data }, { on := 12, ground := Ground.chain }], guard := none } : Oper)) (v := ?_) rfl (by kernel_rfl) (by kernel_rfl) (by kernel_rfl) (fun _ _ _ h => h) (Or.inl ⟨by rfl, ?_⟩) (by assumption) ?_
  rotate_left
  · (intro w hSw; (try dsimp only at hSw); go_simp; try with_reducible rfl)
  (try simp only [Act.put, List.setIfInBounds_toArray, List.set_cons_zero, List.set_cons_succ])
  refine wpAnyH_take (i := 16) (oi := ({ dst := some 137, op := Op.move (Operand.tmp 0), type := 23, pos := "law.go:104", after := #[{ on := 15, ground := Ground.guard }], guard := some (15, true) } : Oper)) (v := ?_) rfl (by kernel_rfl) (by kernel_rfl) (by kernel_rfl) (fun _ _ _ h => h) (Or.inl ⟨by rfl, ?_⟩) (by assumption) ?_
  rotate_left
  · (intro w hSw; (try dsimp only at hSw); go_simp; try with_reducible rfl)
  (try simp only [Act.put, List.setIfInBounds_toArray, List.set_cons_zero, List.set_cons_succ])
  refine wpAnyH_take (i := 18) (oi := ({ dst := some 139, op := Op.move (Operand.tmp 1), type := 23, pos := "law.go:104", after := #[{ on := 15, ground := Ground.guard }], guard := some (15, true) } : Oper)) (v := ?_) rfl (by kernel_rfl) (by kernel_rfl) (by kernel_rfl) (fun _ _ _ h => h) (Or.inl ⟨by rfl, ?_⟩) (by assumption) ?_
  rotate_left
  · (intro w hSw; (try dsimp only at hSw); go_simp; try with_reducible rfl)
  (try simp only [Act.put, List.setIfInBounds_toArray, List.set_cons_zero, List.set_cons_succ])
  refine wpAnyH_ready (rs := [17]) (by kernel_rfl) (by simp) ?_
  refine AllReadyH.cons (o := ({ dst := some 138, op := Op.call { callee := Callee.value (Operand.func 52), args := #[Operand.tmp 137], argTypes := #[23] }, type := 58, pos := "law.go:104", after := #[{ on := 16, ground := Ground.data }, { on := 15, ground := Ground.chain }, { on := 15, ground := Ground.guard }], guard := some (15, true) } : Oper)) rfl (fun K hK => ?_) AllReadyH.nil
  go_simp
  go_at_call_of 52 (Value.pointer (some (⟨ma, 0, none⟩ : Addr))); refine (HCa.out _ K0.out).mono ?_; rintro e w12 ⟨rfl, hkc⟩; have K1 := Lib.hid (K0.out.trans hkc (fun _ x => x.elim)); clear hkc
  go_wp2_with fail
  refine hK.out _ _ (show Keep No w11 _ from K1.out) (fun hH2 => ?_)
  clear hHeld hK
  have hHeld := hH2
  clear hH2 K
  (try simp only [Act.put, List.setIfInBounds_toArray, List.set_cons_zero, List.set_cons_succ])
  refine wpAnyH_ready (rs := [19]) (by kernel_rfl) (by simp) ?_
  refine AllReadyH.cons (o := ({ dst := some 140, op := Op.call { callee := Callee.value (Operand.func 52), args := #[Operand.tmp 139], argTypes := #[23] }, type := 58, pos := "law.go:104", after := #[{ on := 18, ground := Ground.data }, { on := 17, ground := Ground.chain }, { on := 15, ground := Ground.guard }], guard := some (15, true) } : Oper)) rfl (fun K hK => ?_) AllReadyH.nil
  go_simp
  go_at_call_of 52 (Value.pointer (some (⟨mb, 0, none⟩ : Addr))); refine (HCb.out _ K1.out).mono ?_; rintro e w13 ⟨rfl, hkc⟩; have K2 := Lib.hid (K1.out.trans hkc (fun _ x => x.elim)); clear hkc
  go_wp2_with fail
  refine hK.out _ _ (show Keep No w11 _ from K2.out) (fun hH2 => ?_)
  clear hHeld hK
  have hHeld := hH2
  clear hH2 K
  (try simp only [Act.put, List.setIfInBounds_toArray, List.set_cons_zero, List.set_cons_succ])
  refine wpAnyH_take (i := 20) (oi := ({ dst := some 141, op := Op.binOp BinOp.eql 58 (Operand.tmp 138) (Operand.tmp 140) 58, type := 4, pos := "law.go:104", after := #[{ on := 17, ground := Ground.data }, { on := 19, ground := Ground.data }, { on := 15, ground := Ground.guard }], guard := some (15, true) } : Oper)) (v := ?_) rfl (by kernel_rfl) (by kernel_rfl) (by kernel_rfl) (fun _ _ _ h => h) (Or.inl ⟨by rfl, ?_⟩) (by assumption) ?_
  rotate_left
  · (intro w hSw; (try dsimp only at hSw); go_simp; try with_reducible rfl)
  (try simp only [Act.put, List.setIfInBounds_toArray, List.set_cons_zero, List.set_cons_succ])
  refine wpAnyH_take (i := 21) (oi := ({ dst := some 142, op := Op.pick (Operand.tmp 136) (Operand.tmp 141) (Operand.const (Value.bool false)), type := 4, pos := "law.go:104", after := #[{ on := 15, ground := Ground.data }, { on := 20, ground := Ground.data }], guard := none } : Oper)) (v := ?_) rfl (by kernel_rfl) (by kernel_rfl) (by kernel_rfl) (fun _ _ _ h => h) (Or.inl ⟨by rfl, ?_⟩) (by assumption) ?_
  rotate_left
  · (intro w hSw; (try dsimp only at hSw); go_simp; try with_reducible rfl)
  (try simp only [Act.put, List.setIfInBounds_toArray, List.set_cons_zero, List.set_cons_succ])
  refine wpAnyH_take (i := 22) (oi := ({ dst := some 143, op := Op.move (Operand.tmp 142), type := 4, pos := "law.go:104", after := #[{ on := 21, ground := Ground.data }, { on := 19, ground := Ground.chain }], guard := none } : Oper)) (v := ?_) rfl (by kernel_rfl) (by kernel_rfl) (by kernel_rfl) (fun _ _ _ h => h) (Or.inl ⟨by rfl, ?_⟩) (by assumption) ?_
  rotate_left
  · (intro w hSw; (try dsimp only at hSw); go_simp; try with_reducible rfl)
  (try simp only [Act.put, List.setIfInBounds_toArray, List.set_cons_zero, List.set_cons_succ])
  refine wpAnyH_take (i := 23) (oi := ({ dst := some 144, op := Op.move (Operand.tmp 0), type := 23, pos := "law.go:104", after := #[{ on := 22, ground := Ground.guard }], guard := some (22, true) } : Oper)) (v := ?_) rfl (by kernel_rfl) (by kernel_rfl) (by kernel_rfl) (fun _ _ _ h => h) (Or.inl ⟨by rfl, ?_⟩) (by assumption) ?_
  rotate_left
  · (intro w hSw; (try dsimp only at hSw); go_simp; try with_reducible rfl)
  (try simp only [Act.put, List.setIfInBounds_toArray, List.set_cons_zero, List.set_cons_succ])
  refine wpAnyH_take (i := 26) (oi := ({ dst := some 147, op := Op.move (Operand.tmp 1), type := 23, pos := "law.go:104", after := #[{ on := 22, ground := Ground.guard }], guard := some (22, true) } : Oper)) (v := ?_) rfl (by kernel_rfl) (by kernel_rfl) (by kernel_rfl) (fun _ _ _ h => h) (Or.inl ⟨by rfl, ?_⟩) (by assumption) ?_
  rotate_left
  · (intro w hSw; (try dsimp only at hSw); go_simp; try with_reducible rfl)
  (try simp only [Act.put, List.setIfInBounds_toArray, List.set_cons_zero, List.set_cons_succ])
  refine wpAnyH_ready (rs := [24]) (by kernel_rfl) (by simp) ?_
  refine AllReadyH.cons (o := ({ dst := some 145, op := Op.call { callee := Callee.value (Operand.func 17), args := #[Operand.tmp 144], argTypes := #[23] }, type := 41, pos := "law.go:104", after := #[{ on := 23, ground := Ground.data }, { on := 22, ground := Ground.chain }, { on := 22, ground := Ground.guard }], guard := some (22, true) } : Oper)) rfl (fun K hK => ?_) AllReadyH.nil
  go_simp
  go_at_call_of 17 (Value.pointer (some (⟨ma, 0, none⟩ : Addr))); refine (HIa.out _ K2.out).mono ?_; rintro e w14 ⟨A5, n5, c5, rfl, hb5, hkc⟩; have hcv5 := Bytes.conv (P := Try.prog) hb5 c5 Try.underlying41 Try.underlying5 Try.underlying9; have HB5 := Lib.hid hb5; have K3 := Lib.hid (K2.out.trans hkc (fun _ x => x.elim)); clear hkc hb5
  go_wp2_with fail
  refine hK.out _ _ (show Keep No w11 _ from K3.out) (fun hH2 => ?_)
  clear hHeld hK
  have hHeld := hH2
  clear hH2 K
  (try simp only [Act.put, List.setIfInBounds_toArray, List.set_cons_zero, List.set_cons_succ])
  refine wpAnyH_ready (rs := [25, 27]) (by kernel_rfl) (by simp) ?_
  refine AllReadyH.cons (o := ({ dst := some 146, op := Op.convert 41 9 (Operand.tmp 145), type := 9, pos := "law.go:104", after := #[{ on := 24, ground := Ground.data }, { on := 22, ground := Ground.guard }], guard := some (22, true) } : Oper)) rfl (fun K hK => ?_) (AllReadyH.cons (o := ({ dst := some 148, op := Op.call { callee := Callee.value (Operand.func 17), args := #[Operand.tmp 147], argTypes := #[23] }, type := 41, pos := "law.go:104", after := #[{ on := 26, ground := Ground.data }, { on := 24, ground := Ground.chain }, { on := 22, ground := Ground.guard }], guard := some (22, true) } : Oper)) rfl (fun K hK => ?_) AllReadyH.nil)
  · skip
    go_simp
    refine hK.out _ _ (show Keep No w11 _ from K3.out) (fun hH2 => ?_)
    clear hHeld hK
    have hHeld := hH2
    clear hH2 K
    (try simp only [Act.put, List.setIfInBounds_toArray, List.set_cons_zero, List.set_cons_succ])
    refine wpAnyH_ready (rs := [27]) (by kernel_rfl) (by simp) ?_
    refine AllReadyH.cons (o := ({ dst := some 148, op := Op.call { callee := Callee.value (Operand.func 17), args := #[Operand.tmp 147], argTypes := #[23] }, type := 41, pos := "law.go:104", after := #[{ on := 26, ground := Ground.data }, { on := 24, ground := Ground.chain }, { on := 22, ground := Ground.guard }], guard := some (22, true) } : Oper)) rfl (fun K hK => ?_) AllReadyH.nil
    go_simp
    go_at_call_of 17 (Value.pointer (some (⟨mb, 0, none⟩ : Addr))); refine (HIb.out _ K3.out).mono ?_; rintro e w15 ⟨A6, n6, c6, rfl, hb6, hkc⟩; have hcv6 := Bytes.conv (P := Try.prog) hb6 c6 Try.underlying41 Try.underlying5 Try.underlying9; have hcv7 := Bytes.conv (P := Try.prog) (HB5.out.new_ hkc) c5 Try.underlying41 Try.underlying5 Try.underlying9; have K4 := Lib.hid (K3.out.trans hkc (fun _ x => x.elim)); clear hkc hb6
    go_wp2_with fail
    refine hK.out _ _ (show Keep No w11 _ from K4.out) (fun hH2 => ?_)
    clear hHeld hK
    have hHeld := hH2
    clear hH2 K
    (try simp only [Act.put, List.setIfInBounds_toArray, List.set_cons_zero, List.set_cons_succ])
    refine wpAnyH_ready (rs := [28]) (by kernel_rfl) (by simp) ?_
    refine AllReadyH.cons (o := ({ dst := some 149, op := Op.convert 41 9 (Operand.tmp 148), type := 9, pos := "law.go:104", after := #[{ on := 27, ground := Ground.data }, { on := 22, ground := Ground.guard }], guard := some (22, true) } : Oper)) rfl (fun K hK => ?_) AllReadyH.nil
    go_simp
    refine hK.out _ _ (show Keep No w11 _ from K4.out) (fun hH2 => ?_)
    clear hHeld hK
    have hHeld := hH2
    clear hH2 K
    (try simp only [Act.put, List.setIfInBounds_toArray, List.set_cons_zero, List.set_cons_succ])
    refine wpAnyH_take (i := 29) (oi := ({ dst := some 150, op := Op.binOp BinOp.eql 9 (Operand.tmp 146) (Operand.tmp 149) 9, type := 4, pos := "law.go:104", after := #[{ on := 25, ground := Ground.data }, { on := 28, ground := Ground.data }, { on := 22, ground := Ground.guard }], guard := some (22, true) } : Oper)) (v := ?_) rfl (by kernel_rfl) (by kernel_rfl) (by kernel_rfl) (fun _ _ _ h => h) (Or.inl ⟨by rfl, ?_⟩) (by assumption) ?_
    rotate_left
    · (intro w hSw; (try dsimp only at hSw); go_simp; try with_reducible rfl)
    (try simp only [Act.put, List.setIfInBounds_toArray, List.set_cons_zero, List.set_cons_succ])
    refine wpAnyH_take (i := 30) (oi := ({ dst := some 151, op := Op.pick (Operand.tmp 143) (Operand.tmp 150) (Operand.const (Value.bool false)), type := 4, pos := "law.go:104", after := #[{ on := 22, ground := Ground.data }, { on := 29, ground := Ground.data }], guard := none } : Oper)) (v := ?_) rfl (by kernel_rfl) (by kernel_rfl) (by kernel_rfl) (fun _ _ _ h => h) (Or.inl ⟨by rfl, ?_⟩) (by assumption) ?_
    rotate_left
    · (intro w hSw; (try dsimp only at hSw); go_simp; try with_reducible rfl)
    (try simp only [Act.put, List.setIfInBounds_toArray, List.set_cons_zero, List.set_cons_succ])
    refine wpAnyH_take (i := 31) (oi := ({ dst := some 6, op := Op.assign (Operand.tmp 151), type := 4, pos := "law.go:104", after := #[{ on := 30, ground := Ground.data }, { on := 27, ground := Ground.chain }, { on := 0, ground := Ground.phase }, { on := 1, ground := Ground.phase }, { on := 2, ground := Ground.phase }, { on := 3, ground := Ground.phase }, { on := 4, ground := Ground.phase }, { on := 5, ground := Ground.phase }, { on := 6, ground := Ground.phase }, { on := 7, ground := Ground.phase }, { on := 8, ground := Ground.phase }, { on := 9, ground := Ground.phase }, { on := 10, ground := Ground.phase }, { on := 11, ground := Ground.phase }, { on := 12, ground := Ground.phase }, { on := 13, ground := Ground.phase }, { on := 14, ground := Ground.phase }, { on := 15, ground := Ground.phase }, { on := 16, ground := Ground.phase }, { on := 17, ground := Ground.phase }, { on := 18, ground := Ground.phase }, { on := 19, ground := Ground.phase }, { on := 20, ground := Ground.phase }, { on := 21, ground := Ground.phase }, { on := 22, ground := Ground.phase }, { on := 23, ground := Ground.phase }, { on := 24, ground := Ground.phase }, { on := 25, ground := Ground.phase }, { on := 26, ground := Ground.phase }, { on := 27, ground := Ground.phase }, { on := 28, ground := Ground.phase }, { on := 29, ground := Ground.phase }, { on := 30, ground := Ground.phase }], guard := none } : Oper)) (v := ?_) rfl (by kernel_rfl) (by kernel_rfl) (by kernel_rfl) (fun _ _ _ h => h) (Or.inl ⟨by rfl, ?_⟩) (by assumption) ?_
    rotate_left
    · (intro w hSw; (try dsimp only at hSw); go_simp; try with_reducible rfl)
    (try simp only [Act.put, List.setIfInBounds_toArray, List.set_cons_zero, List.set_cons_succ])
    refine wpAnyH_done (by kernel_rfl) ?_ _
    refine NoPanic.normal ?_
    go_wp2_with fail
    go_ret
    exact ⟨rfl, HKW.out.trans K4.out (fun _ x => x.elim)⟩
  · skip
    go_simp
    go_at_call_of 17 (Value.pointer (some (⟨mb, 0, none⟩ : Addr))); refine (HIb.out _ K3.out).mono ?_; rintro e w15 ⟨A6, n6, c6, rfl, hb6, hkc⟩; have hcv6 := Bytes.conv (P := Try.prog) hb6 c6 Try.underlying41 Try.underlying5 Try.underlying9; have hcv7 := Bytes.conv (P := Try.prog) (HB5.out.new_ hkc) c5 Try.underlying41 Try.underlying5 Try.underlying9; have K4 := Lib.hid (K3.out.trans hkc (fun _ x => x.elim)); clear hkc hb6
    go_wp2_with fail
    refine hK.out _ _ (show Keep No w11 _ from K4.out) (fun hH2 => ?_)
    clear hHeld hK
    have hHeld := hH2
    clear hH2 K
    (try simp only [Act.put, List.setIfInBounds_toArray, List.set_cons_zero, List.set_cons_succ])
    refine wpAnyH_ready (rs := [25, 28]) (by kernel_rfl) (by simp) ?_
    refine AllReadyH.cons (o := ({ dst := some 146, op := Op.convert 41 9 (Operand.tmp 145), type := 9, pos := "law.go:104", after := #[{ on := 24, ground := Ground.data }, { on := 22, ground := Ground.guard }], guard := some (22, true) } : Oper)) rfl (fun K hK => ?_) (AllReadyH.cons (o := ({ dst := some 149, op := Op.convert 41 9 (Operand.tmp 148), type := 9, pos := "law.go:104", after := #[{ on := 27, ground := Ground.data }, { on := 22, ground := Ground.guard }], guard := some (22, true) } : Oper)) rfl (fun K hK => ?_) AllReadyH.nil)
    · skip
      go_simp
      refine hK.out _ _ (show Keep No w11 _ from K4.out) (fun hH2 => ?_)
      clear hHeld hK
      have hHeld := hH2
      clear hH2 K
      (try simp only [Act.put, List.setIfInBounds_toArray, List.set_cons_zero, List.set_cons_succ])
      refine wpAnyH_ready (rs := [28]) (by kernel_rfl) (by simp) ?_
      refine AllReadyH.cons (o := ({ dst := some 149, op := Op.convert 41 9 (Operand.tmp 148), type := 9, pos := "law.go:104", after := #[{ on := 27, ground := Ground.data }, { on := 22, ground := Ground.guard }], guard := some (22, true) } : Oper)) rfl (fun K hK => ?_) AllReadyH.nil
      go_simp
      refine hK.out _ _ (show Keep No w11 _ from K4.out) (fun hH2 => ?_)
      clear hHeld hK
      have hHeld := hH2
      clear hH2 K
      (try simp only [Act.put, List.setIfInBounds_toArray, List.set_cons_zero, List.set_cons_succ])
      refine wpAnyH_take (i := 29) (oi := ({ dst := some 150, op := Op.binOp BinOp.eql 9 (Operand.tmp 146) (Operand.tmp 149) 9, type := 4, pos := "law.go:104", after := #[{ on := 25, ground := Ground.data }, { on := 28, ground := Ground.data }, { on := 22, ground := Ground.guard }], guard := some (22, true) } : Oper)) (v := ?_) rfl (by kernel_rfl) (by kernel_rfl) (by kernel_rfl) (fun _ _ _ h => h) (Or.inl ⟨by rfl, ?_⟩) (by assumption) ?_
      rotate_left
      · (intro w hSw; (try dsimp only at hSw); go_simp; try with_reducible rfl)
      (try simp only [Act.put, List.setIfInBounds_toArray, List.set_cons_zero, List.set_cons_succ])
      refine wpAnyH_take (i := 30) (oi := ({ dst := some 151, op := Op.pick (Operand.tmp 143) (Operand.tmp 150) (Operand.const (Value.bool false)), type := 4, pos := "law.go:104", after := #[{ on := 22, ground := Ground.data }, { on := 29, ground := Ground.data }], guard := none } : Oper)) (v := ?_) rfl (by kernel_rfl) (by kernel_rfl) (by kernel_rfl) (fun _ _ _ h => h) (Or.inl ⟨by rfl, ?_⟩) (by assumption) ?_
      rotate_left
      · (intro w hSw; (try dsimp only at hSw); go_simp; try with_reducible rfl)
      (try simp only [Act.put, List.setIfInBounds_toArray, List.set_cons_zero, List.set_cons_succ])
      refine wpAnyH_take (i := 31) (oi := ({ dst := some 6, op := Op.assign (Operand.tmp 151), type := 4, pos := "law.go:104", after := #[{ on := 30, ground := Ground.data }, { on := 27, ground := Ground.chain }, { on := 0, ground := Ground.phase }, { on := 1, ground := Ground.phase }, { on := 2, ground := Ground.phase }, { on := 3, ground := Ground.phase }, { on := 4, ground := Ground.phase }, { on := 5, ground := Ground.phase }, { on := 6, ground := Ground.phase }, { on := 7, ground := Ground.phase }, { on := 8, ground := Ground.phase }, { on := 9, ground := Ground.phase }, { on := 10, ground := Ground.phase }, { on := 11, ground := Ground.phase }, { on := 12, ground := Ground.phase }, { on := 13, ground := Ground.phase }, { on := 14, ground := Ground.phase }, { on := 15, ground := Ground.phase }, { on := 16, ground := Ground.phase }, { on := 17, ground := Ground.phase }, { on := 18, ground := Ground.phase }, { on := 19, ground := Ground.phase }, { on := 20, ground := Ground.phase }, { on := 21, ground := Ground.phase }, { on := 22, ground := Ground.phase }, { on := 23, ground := Ground.phase }, { on := 24, ground := Ground.phase }, { on := 25, ground := Ground.phase }, { on := 26, ground := Ground.phase }, { on := 27, ground := Ground.phase }, { on := 28, ground := Ground.phase }, { on := 29, ground := Ground.phase }, { on := 30, ground := Ground.phase }], guard := none } : Oper)) (v := ?_) rfl (by kernel_rfl) (by kernel_rfl) (by kernel_rfl) (fun _ _ _ h => h) (Or.inl ⟨by rfl, ?_⟩) (by assumption) ?_
      rotate_left
      · (intro w hSw; (try dsimp only at hSw); go_simp; try with_reducible rfl)
      (try simp only [Act.put, List.setIfInBounds_toArray, List.set_cons_zero, List.set_cons_succ])
      refine wpAnyH_done (by kernel_rfl) ?_ _
      refine NoPanic.normal ?_
      go_wp2_with fail
      go_ret
      exact ⟨rfl, HKW.out.trans K4.out (fun _ x => x.elim)⟩
    · skip
      go_simp
      refine hK.out _ _ (show Keep No w11 _ from K4.out) (fun hH2 => ?_)
      clear hHeld hK
      have hHeld := hH2
      clear hH2 K
      (try simp only [Act.put, List.setIfInBounds_toArray, List.set_cons_zero, List.set_cons_succ])
      refine wpAnyH_ready (rs := [25]) (by kernel_rfl) (by simp) ?_
      refine AllReadyH.cons (o := ({ dst := some 146, op := Op.convert 41 9 (Operand.tmp 145), type := 9, pos := "law.go:104", after := #[{ on := 24, ground := Ground.data }, { on := 22, ground := Ground.guard }], guard := some (22, true) } : Oper)) rfl (fun K hK => ?_) AllReadyH.nil
      go_simp
      refine hK.out _ _ (show Keep No w11 _ from K4.out) (fun hH2 => ?_)
      clear hHeld hK
      have hHeld := hH2
      clear hH2 K
      (try simp only [Act.put, List.setIfInBounds_toArray, List.set_cons_zero, List.set_cons_succ])
      refine wpAnyH_take (i := 29) (oi := ({ dst := some 150, op := Op.binOp BinOp.eql 9 (Operand.tmp 146) (Operand.tmp 149) 9, type := 4, pos := "law.go:104", after := #[{ on := 25, ground := Ground.data }, { on := 28, ground := Ground.data }, { on := 22, ground := Ground.guard }], guard := some (22, true) } : Oper)) (v := ?_) rfl (by kernel_rfl) (by kernel_rfl) (by kernel_rfl) (fun _ _ _ h => h) (Or.inl ⟨by rfl, ?_⟩) (by assumption) ?_
      rotate_left
      · (intro w hSw; (try dsimp only at hSw); go_simp; try with_reducible rfl)
      (try simp only [Act.put, List.setIfInBounds_toArray, List.set_cons_zero, List.set_cons_succ])
      refine wpAnyH_take (i := 30) (oi := ({ dst := some 151, op := Op.pick (Operand.tmp 143) (Operand.tmp 150) (Operand.const (Value.bool false)), type := 4, pos := "law.go:104", after := #[{ on := 22, ground := Ground.data }, { on := 29, ground := Ground.data }], guard := none } : Oper)) (v := ?_) rfl (by kernel_rfl) (by kernel_rfl) (by kernel_rfl) (fun _ _ _ h => h) (Or.inl ⟨by rfl, ?_⟩) (by assumption) ?_
      rotate_left
      · (intro w hSw; (try dsimp only at hSw); go_simp; try with_reducible rfl)
      (try simp only [Act.put, List.setIfInBounds_toArray, List.set_cons_zero, List.set_cons_succ])
      refine wpAnyH_take (i := 31) (oi := ({ dst := some 6, op := Op.assign (Operand.tmp 151), type := 4, pos := "law.go:104", after := #[{ on := 30, ground := Ground.data }, { on := 27, ground := Ground.chain }, { on := 0, ground := Ground.phase }, { on := 1, ground := Ground.phase }, { on := 2, ground := Ground.phase }, { on := 3, ground := Ground.phase }, { on := 4, ground := Ground.phase }, { on := 5, ground := Ground.phase }, { on := 6, ground := Ground.phase }, { on := 7, ground := Ground.phase }, { on := 8, ground := Ground.phase }, { on := 9, ground := Ground.phase }, { on := 10, ground := Ground.phase }, { on := 11, ground := Ground.phase }, { on := 12, ground := Ground.phase }, { on := 13, ground := Ground.phase }, { on := 14, ground := Ground.phase }, { on := 15, ground := Ground.phase }, { on := 16, ground := Ground.phase }, { on := 17, ground := Ground.phase }, { on := 18, ground := Ground.phase }, { on := 19, ground := Ground.phase }, { on := 20, ground := Ground.phase }, { on := 21, ground := Ground.phase }, { on := 22, ground := Ground.phase }, { on := 23, ground := Ground.phase }, { on := 24, ground := Ground.phase }, { on := 25, ground := Ground.phase }, { on := 26, ground := Ground.phase }, { on := 27, ground := Ground.phase }, { on := 28, ground := Ground.phase }, { on := 29, ground := Ground.phase }, { on := 30, ground := Ground.phase }], guard := none } : Oper)) (v := ?_) rfl (by kernel_rfl) (by kernel_rfl) (by kernel_rfl) (fun _ _ _ h => h) (Or.inl ⟨by rfl, ?_⟩) (by assumption) ?_
      rotate_left
      · (intro w hSw; (try dsimp only at hSw); go_simp; try with_reducible rfl)
      (try simp only [Act.put, List.setIfInBounds_toArray, List.set_cons_zero, List.set_cons_succ])
      refine wpAnyH_done (by kernel_rfl) ?_ _
      refine NoPanic.normal ?_
      go_wp2_with fail
      go_ret
      exact ⟨rfl, HKW.out.trans K4.out (fun _ x => x.elim)⟩
end Go.Proofs.Ytgabidgpngiecaa
