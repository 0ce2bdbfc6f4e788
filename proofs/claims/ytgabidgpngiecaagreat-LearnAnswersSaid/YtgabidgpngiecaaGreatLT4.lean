/- What bestCut computes, and what it holds in memory. Conditions: none. -/
import Derived.Test.YtgabidgpngiecaaGreatLT0
import Derived.Test.YtgabidgpngiecaaGreatLT3
namespace Go.Proofs.YtgabidgpngiecaaGreat
open Go.RowKit Go.Proofs.YtgabidgpngiecaaGreatKit Go.Proofs.YtgabidgpngiecaaGreatPlain

/-- The best cut so far. -/
structure Cut where
  col : Nat
  cut : Int
  num : Int
  den : Int
  ok : Bool
/-- The worth of a cut of rows. -/
def numAt (L : List (Row × Nat)) (c : Nat) (x : Int) : Int := wNum (cnt8 (expand (lowL c x L))) (cnt8 (expand (highL c x L)))
def denAt (L : List (Row × Nat)) (c : Nat) (x : Int) : Int := wDen (cnt8 (expand (lowL c x L))) (cnt8 (expand (highL c x L)))
def cutStep (L : List (Row × Nat)) (c : Nat) (s : Cut) (x : Int) : Cut :=
  if s.ok = false ∨ s.num * denAt L c x < numAt L c x * s.den then ⟨c, x, numAt L c x, denAt L c x, true⟩ else s
/-- The numbers of a column in order, each once. -/
def colL (c : Nat) (L : List (Row × Nat)) : List Int := Lib.compact (isrt (L.map fun p => p.1.x c))
def bestIn (L : List (Row × Nat)) (c : Nat) (s : Cut) : Cut := (colL c L).dropLast.foldl (cutStep L c) s
def bestTo (L : List (Row × Nat)) : Nat → Cut
  | 0 => ⟨0, 0, 0, 0, false⟩
  | k + 1 => bestIn L k (bestTo L k)
theorem expand_low {c : Nat} {x : Int} {L : List (Row × Nat)} : (expand (lowL c x L)).length + (expand (highL c x L)).length = (expand L).length := by
  induction L with
  | nil => rfl
  | cons p L ih =>
    rw [expand_cons, List.length_append, ← ih]
    by_cases h : p.1.x c ≤ x
    · have e1 : lowL c x (p :: L) = p :: lowL c x L := by simp [lowL, h]
      have e2 : highL c x (p :: L) = highL c x L := by simp [highL, h]
      rw [e1, e2, expand_cons, List.length_append]
      omega
    · have e1 : lowL c x (p :: L) = lowL c x L := by simp [lowL, h]
      have e2 : highL c x (p :: L) = p :: highL c x L := by simp [highL, h]
      rw [e1, e2, expand_cons, List.length_append]
      omega
theorem worth_bd {a b : Nat → Nat} (ha : ∀ i, i < 8 → a i ≤ 1000) (hb : ∀ i, i < 8 → b i ≤ 1000) : 0 ≤ wNum a b ∧ wNum a b ≤ 128000000000 ∧ 0 ≤ wDen a b ∧ wDen a b ≤ 64000000 := by
  have h1 := sqC_bd ha 8 (Nat.le_refl _)
  have h2 := sqC_bd hb 8 (Nat.le_refl _)
  have h3 := totC_bd ha 8 (Nat.le_refl _)
  have h4 := totC_bd hb 8 (Nat.le_refl _)
  have m1 := mul_in (X := 8000000) (Y := 8000) h1.1 (by omega) h4.1 (by omega)
  have m2 := mul_in (X := 8000000) (Y := 8000) h2.1 (by omega) h3.1 (by omega)
  have m3 := mul_in (X := 8000) (Y := 8000) h3.1 (by omega) h4.1 (by omega)
  unfold wNum wDen
  omega
theorem at_bd {L : List (Row × Nat)} (hl : (expand L).length ≤ 500) (c : Nat) (x : Int) : 0 ≤ numAt L c x ∧ numAt L c x ≤ 128000000000 ∧ 0 ≤ denAt L c x ∧ denAt L c x ≤ 64000000 := by
  have h := expand_low (c := c) (x := x) (L := L)
  exact worth_bd (cnt8_le (by omega)) (cnt8_le (by omega))
def CutBd (s : Cut) : Prop := s.col < 3 ∧ 0 ≤ s.num ∧ s.num ≤ 128000000000 ∧ 0 ≤ s.den ∧ s.den ≤ 64000000
theorem CutBd.step {L : List (Row × Nat)} {s : Cut} {c : Nat} (h : CutBd s) (hl : (expand L).length ≤ 500) (hc : c < 3) (x : Int) : CutBd (cutStep L c s x) := by
  unfold cutStep
  split
  · exact ⟨hc, at_bd hl c x⟩
  · exact h
/-- No product of two worths is too great. -/
theorem cut_fit {L : List (Row × Nat)} {s : Cut} (h : CutBd s) (hl : (expand L).length ≤ 500) (c : Nat) (x : Int) : IntKind.i64.wrap (numAt L c x * s.den) = numAt L c x * s.den ∧ IntKind.i64.wrap (s.num * denAt L c x) = s.num * denAt L c x := by
  have h2 := at_bd hl c x
  have m1 := mul_in h2.1 h2.2.1 h.2.2.2.1 h.2.2.2.2
  have m2 := mul_in h.2.1 h.2.2.1 h2.2.2.1 h2.2.2.2
  exact ⟨IntWalk.i64_in _ ⟨by omega, by omega⟩, IntWalk.i64_in _ ⟨by omega, by omega⟩⟩

/-- What bestCut holds: the rows, the numbers of a column. -/
structure CSt (B : Nat) (w W : World) (v : Value) (L : List (Row × Nat)) (xv : Value) (xs : List Int) : Prop where
  cn : Cnt B W v L
  oi : OI w.heap.size W xv xs
  kp : Keep No w W
  old : ∀ k, v.ownBlock = some k → k < w.heap.size
section
variable {B : Nat} {w W W' : World} {v xv xv' : Value} {L : List (Row × Nat)} {xs ys : List Int}
theorem CSt.new_ (h : CSt B w W v L xv xs) (hk : Keep No W W') : CSt B w W' v L xv xs := ⟨h.cn.keep hk (fun _ _ x => x), h.oi.keep hk (fun _ _ x => x), h.kp.trans hk (fun _ x => x.elim), h.old⟩
theorem CSt.nil (h : CSt B w W v L xv xs) : CSt B w W v L (.slice none 0 0) [] := ⟨h.cn, World.ownsRow_nil _ _ _ _, h.kp, h.old⟩
theorem CSt.push {x : Int} {o : Obj} (h : CSt B w W v L xv xs) (ho : W'.ownsRow w.heap.size 3 1 xv' (xs.length + 1) (intsV xs ++ [.int .i64 x])) (hg : (W.alloc o).grownBy W' xv.ownBlock) : CSt B w W' v L xv' (xs ++ [x]) := by
  have hk : Keep (fun k => xv.ownBlock = some k) W W' := ((Keep.refl _ W).alloc o).grown hg (fun k e => .inl e)
  refine ⟨h.cn.keep hk (fun k h1 h2 => ?_), ?_, h.kp.trans hk (fun k e => .inr (World.ownsRow.lt h.oi k e).1), h.old⟩
  · have := h.old k h1
    have := (World.ownsRow.lt h.oi k h2).1
    omega
  · unfold OI
    rw [← intsV_push, List.length_append]
    exact ho
theorem CSt.turn {g c n : Nat} (h : CSt B w W v L (.slice (some ⟨g, 0, none⟩) xs.length c) xs) (ho : OI w.heap.size W' (.slice (some ⟨g, 0, none⟩) n c) ys) (hk : Keep (fun b => b = g) W W') : CSt B w W' v L (.slice (some ⟨g, 0, none⟩) n c) ys := by
  have hge := (World.ownsRow.lt h.oi g rfl).1
  exact ⟨h.cn.keep hk (fun k h1 h2 => by have := h.old k h1; omega), ho, h.kp.trans hk (fun k e => .inr (by omega)), h.old⟩
end
end Go.Proofs.YtgabidgpngiecaaGreat

namespace Go.Proofs.YtgabidgpngiecaaGreat
open Go.RowKit Go.Proofs.YtgabidgpngiecaaGreatKit Go.Proofs.YtgabidgpngiecaaGreatPlain

theorem encC_x {w : World} {g : Nat} {p : Row × Nat} (h : Blk w g 96 (encC p).toArray) {c : Nat} (hc : c < 3) : w.cell? ⟨g, c, none⟩ = some (.int .i64 (p.1.x c)) := by
  have h1 := Blk.cell h c
  rw [h1]
  have : c = 0 ∨ c = 1 ∨ c = 2 := by omega
  rcases this with rfl | rfl | rfl <;> rfl
theorem compact_pos {xs : List Int} (h : 0 < xs.length) : 0 < (Lib.compact xs).length := by
  unfold Lib.compact Lib.compactUpTo
  rw [List.length_map]
  refine List.length_pos_of_mem (a := 0) (List.mem_filter.2 ⟨List.mem_range.2 h, ?_⟩)
  simp [Lib.keeps]
theorem int_hi {A : Option Addr} {n c q : Nat} (hn : n = q + 1) (hc : n ≤ c) (W : World) : (Instr.sliceAt 100 (.slice A n c) none (some (.int .i64 ((n : Int) - 1))) none).run Tryz.prog W = .ok (.slice A q c) W := by
  have e2 : Tryz.prog.elem 100 = 3 := by kernel_rfl
  rw [run_sliceAt_slice (t := 100) (h := by kernel_rfl), run_slice_h (P := Tryz.prog) (w := W) 100 A n c (by kernel_rfl) .i64 ((n : Int) - 1) (by omega) (by omega), e2, Tryz.sizeOf3]
  have e3 : ((n : Int) - 1).toNat = q := by omega
  cases A <;> simp [Result.andThen, sliced, Addr.add, e3]
theorem ret_cut {s t : Cut} (h : s = t) : Ending.returned (.tuple #[.int .i64 (s.col : Nat), .int .i64 s.cut, .bool s.ok]) = .returned (.tuple #[.int .i64 (t.col : Nat), .int .i64 t.cut, .bool t.ok]) := by rw [h]
set_option maxHeartbeats 1000000 in
set_option maxRecDepth 100000 in
theorem best_any {B : Nat} {w : World} {v : Value} {L : List (Row × Nat)} (hC : Cnt B w v L) (h0 : 0 < L.length) (hl : (expand L).length ≤ 500) (hok : ∀ p ∈ L, 0 < p.2 ∧ okRow p.1) :
    Calls Tryz.prog 39 #[v] w fun e w' => e = .returned (.tuple #[.int .i64 (bestTo L 3).col, .int .i64 (bestTo L 3).cut, .bool (bestTo L 3).ok]) ∧ Keep No w w' := by
  obtain ⟨i0, hi0, hz0, hz1, hz2⟩ := info_parts info_int
  have hL5 : L.length ≤ 500 := Nat.le_trans (expand_len hok) hl
  obtain ⟨A, c0, rfl, -⟩ := own_shape hC
  have H0 := Lib.hid (show CSt B w w (.slice A L.length c0) L (.slice none 0 0) [] from ⟨hC, World.ownsRow_nil _ _ _ _, Keep.refl _ _, fun k e => (hC.lt k e).2⟩)
  have HLK := Lib.hid (show _ ∧ _ from ⟨hl, hok⟩)
  clear hC hl hok
  go_enter Tryz.func39, Tryz.ntmps39
  go_wp2_with fail
  go_loopg [2, 3, 4, 5, 6, 15] 3 (fun kx s2 s3 s4 s5 s6 s15 wr => ∃ (c : Nat) (s : Cut), s15 = .int .i64 c ∧ c ≤ 3 ∧ 3 ≤ c + kx ∧ s2 = .int .i64 s.col ∧ s3 = .int .i64 s.cut ∧ s4 = .bool s.ok ∧ s5 = .int .i64 s.num ∧ s6 = .int .i64 s.den ∧ Hid (s = bestTo L c) ∧ Hid (CutBd s) ∧ Hid (CSt B w wr (.slice A L.length c0) L (.slice none 0 0) []))
  case atStart => exact ⟨0, bestTo L 0, rfl, Nat.zero_le _, Nat.le_refl _, rfl, rfl, rfl, rfl, rfl, Lib.hid rfl, Lib.hid (by refine ⟨?_, ?_, ?_, ?_, ?_⟩ <;> simp [bestTo]), H0⟩
  case round =>
    clear H0
    obtain ⟨c, s, rfl, hc, hkx, rfl, rfl, rfl, rfl, rfl, HB, HCB, HS⟩ := hrel
    by_cases hlt : c < 3
    · have j0 : (0 : Int) ≤ (c : Int) := by omega
      have j1 : (c : Int) < 3 := by omega
      go_wp2_with fail
      go_loopg [8, 20] L.length (fun ky s8 s20 wq => ∃ k : Nat, s20 = .int .i64 k ∧ k ≤ L.length ∧ L.length ≤ k + ky ∧ Hid (CSt B w wq (.slice A L.length c0) L s8 ((L.take k).map fun p => p.1.x c)))
      case atStart => exact ⟨0, rfl, Nat.zero_le _, by omega, HS⟩
      case round =>
        clear HS
        obtain ⟨k, rfl, hk, hky, HS⟩ := hrel
        by_cases hlk : k < L.length
        · obtain ⟨g', rfl, hcell⟩ := HS.out.cn.at_ hlk
          have e0 := hcell 0 _ rfl
          rw [Nat.add_zero] at e0
          have e1 := hcell 1 _ rfl
          have e2 := hcell 2 _ rfl
          have e3 := hcell 3 _ rfl
          have e4 := hcell 4 _ rfl
          have hex := Lib.hid (List.take_append_getElem hlk)
          clear hcell
          generalize L[k] = p at *
          have i0' : (0 : Int) ≤ (k : Int) := by omega
          have i1 : (k : Int) < (L.length : Int) := by omega
          have H1 := Lib.hid (HS.out.new_ ((Keep.refl No wr).alloc (.cells (encC p).toArray 96)))
          have f1 := encC_x (Blk.new wr 96 (encC p).toArray) hlt
          unfold encC at f1
          have HXL := Lib.hid (show ((L.take k).map fun p => p.1.x c).length ≤ 500 from by rw [List.length_map, List.length_take]; omega)
          have HE := Lib.hid (show ((L.take k).map fun p => p.1.x c) ++ [p.1.x c] = ((L.take (k + 1)).map fun p => p.1.x c) from by rw [← hex.out, List.map_append]; rfl)
          generalize hxc : p.1.x c = xc at *
          have HXC := Lib.hid hxc
          clear hxc
          go_wp2_with (at_builtin; go_loud (refine wpList_append_any _ rfl (.tmp 24) (.tmp 30) _ rfl w.heap.size 3 i0 _ 1 8 Tryz.underlying100 hi0 hz0 hz1 hz2 rfl (by omega) _ _ _ rfl (H1.out.oi.keep ((Keep.refl No _).alloc _) (fun _ _ x => x)) 0 _ 1 1 [.int .i64 xc] rfl (rec_at _ rfl rfl) (by simp [Value.oneCell']) (by have := HXL.out; simp only [maxLen]; omega) (by have := HXL.out; omega) (by have := HS.out.kp.size; simp; omega) ?_; intro v4 w4 hown4 hg4 _; have H4 := Lib.hid (H1.out.push hown4 hg4); clear hown4 hg4))
          go_roundg (L.length - (k + 1))
          case measure => omega
          case rel => exact ⟨k + 1, by go_num, by omega, by omega, by rw [← HE.out]; exact H4⟩
        · obtain rfl : k = L.length := by omega
          obtain ⟨xs, hxs⟩ : ∃ xs, xs = L.map fun p => p.1.x c := ⟨_, rfl⟩
          have HF := Lib.hid (show CSt B w wr (.slice A L.length c0) L u8 xs from by have := HS.out; rwa [List.take_length, ← hxs] at this)
          have hxl : xs.length = L.length := by rw [hxs, List.length_map]
          have HXL := Lib.hid hxl
          have HXS := Lib.hid (show colL c L = Lib.compact (isrt xs) from by rw [hxs]; rfl)
          clear HS hxs
          have hsh : ∃ g c1, u8 = .slice (some ⟨g, 0, none⟩) xs.length c1 := by
            obtain ⟨A1, c1, e, _⟩ := own_shape HF.out.oi
            subst e
            obtain ⟨g, rfl, _⟩ := HF.out.oi.at_ (k := 0) (by omega)
            exact ⟨g, c1, rfl⟩
          obtain ⟨g, c1, rfl⟩ := hsh
          clear hxl
          have HSo := Lib.hid (isort_any HF.out.oi (by rw [HXL.out]; exact h0) (by rw [HXL.out]; omega))
          go_wp2_with fail
          refine HSo.out.mono ?_
          rintro e w5 ⟨rfl, ho5, hk5⟩
          have HF5 := Lib.hid (HF.out.turn ho5 hk5)
          clear ho5 hk5 HSo HF
          have hsl : (isrt xs).length = xs.length := isrt_length xs
          have HCo := Lib.hid (icompact_any (xs := isrt xs) (by rw [hsl]; exact HF5.out.oi) (by rw [hsl, HXL.out]; exact h0) (by rw [hsl, HXL.out]; omega))
          rw [hsl] at HCo
          have HF5' := Lib.hid (show CSt B w w5 (.slice A L.length c0) L (.slice (some ⟨g, 0, none⟩) (isrt xs).length c1) (isrt xs) from by rw [hsl]; exact HF5.out)
          clear HF5 hsl
          go_wp2_with fail
          refine HCo.out.mono ?_
          rintro e w6 ⟨rfl, ho6, hk6⟩
          have HF6 := Lib.hid (HF5'.out.turn ho6 hk6)
          clear ho6 hk6 HCo HF5'
          have HYL := Lib.hid (show 0 < (Lib.compact (isrt xs)).length ∧ (Lib.compact (isrt xs)).length ≤ 500 from ⟨compact_pos (by rw [isrt_length, HXL.out]; exact h0), by have := compact_le (isrt xs); rw [isrt_length, HXL.out] at this; omega⟩)
          rw [← HXS.out] at HF6 HYL ⊢
          obtain ⟨ys, hys⟩ : ∃ ys, ys = colL c L := ⟨_, rfl⟩
          rw [← hys] at HF6 HYL ⊢
          have HYS := Lib.hid hys
          clear hys HXS HXL
          obtain ⟨q, hq⟩ : ∃ q, ys.length = q + 1 := ⟨ys.length - 1, by have := HYL.out.1; omega⟩
          have hcap : ys.length ≤ c1 := by
            obtain ⟨A', c', e, h2⟩ := own_shape HF6.out.oi
            injection e with _ _ e
            omega
          have hsl := int_hi (A := some ⟨g, 0, none⟩) hq hcap
          have hw1 : IntKind.i64.wrap ((ys.length : Int) - 1) = (ys.length : Int) - 1 := IntWalk.i64_in _ ⟨by have := HYL.out; omega, by have := HYL.out; omega⟩
          have HQ := Lib.hid hq
          clear hq
          go_wp2_with fail
          clear hsl hw1
          go_loopg [2, 3, 4, 5, 6, 43] q (fun ky s2 s3 s4 s5 s6 s43 wr => ∃ (j : Nat) (t : Cut), s43 = .int .i64 j ∧ j ≤ q ∧ q ≤ j + ky ∧ s2 = .int .i64 t.col ∧ s3 = .int .i64 t.cut ∧ s4 = .bool t.ok ∧ s5 = .int .i64 t.num ∧ s6 = .int .i64 t.den ∧ Hid (t = (ys.take j).foldl (cutStep L c) s) ∧ Hid (CutBd t) ∧ Hid (CSt B w wr (.slice A L.length c0) L (.slice (some ⟨g, 0, none⟩) ys.length c1) ys))
          case atStart => exact ⟨0, s, rfl, Nat.zero_le _, by omega, rfl, rfl, rfl, rfl, rfl, Lib.hid rfl, HCB, HF6⟩
          case round =>
            clear HF6 HCB
            obtain ⟨j, t, rfl, hj, hjy, rfl, rfl, rfl, rfl, rfl, HT, HCB, HS⟩ := hrel
            by_cases hjq : j < q
            · have hjl : j < ys.length := by have := HQ.out; omega
              have hj5 : j < 500 := by have := HYL.out; omega
              obtain ⟨g2, eg, _, f0⟩ := HS.out.oi.at_ hjl
              injection eg with eg
              injection eg with eg
              subst eg
              have HTK := Lib.hid (show (ys.take (j + 1)).foldl (cutStep L c) s = cutStep L c t ys[j] from by rw [← List.take_append_getElem hjl, List.foldl_append, ← HT.out]; rfl)
              have y0 : (0 : Int) ≤ (j : Int) := by omega
              have y1 : (j : Int) < (q : Int) := by omega
              generalize ys[j] = x at *
              have HSP := Lib.hid (split_any c x HS.out.cn hlt hL5)
              have HWT := Lib.hid (cut_fit HCB.out HLK.out.1 c x)
              go_wp2_with fail
              refine HSP.out.mono ?_
              rintro e w7 ⟨lv, hv, rfl, hsp⟩
              have HWo : Hid (Calls Tryz.prog 60 #[lv, hv] w7 fun e w' => e = .returned (.tuple #[.int .i64 (numAt L c x), .int .i64 (denAt L c x)]) ∧ Keep No w7 w') := Lib.hid (worth_any hsp.lo hsp.hi (by have := HLK.out.1; have := expand_low (c := c) (x := x) (L := L); omega) (by have := HLK.out.1; have := expand_low (c := c) (x := x) (L := L); omega) (fun p hp => HLK.out.2 p (List.mem_filter.1 hp).1) (fun p hp => HLK.out.2 p (List.mem_filter.1 hp).1))
              have HS7 := Lib.hid (HS.out.new_ hsp.kp)
              have HCB2 := Lib.hid (HCB.out.step HLK.out.1 hlt x)
              clear hsp HS HSP f0
              go_wp2_with fail
              refine HWo.out.mono ?_
              rintro e w8 ⟨rfl, k8⟩
              have HS8 := Lib.hid (HS7.out.new_ k8)
              clear k8 HS7 HWo
              have HCS := Lib.hid (show cutStep L c t x = if t.ok = false ∨ t.num * denAt L c x < numAt L c x * t.den then ⟨c, x, numAt L c x, denAt L c x, true⟩ else t from rfl)
              rw [HCS.out] at HCB2
              obtain ⟨q1, q2⟩ := HWT.out
              clear HWT
              generalize numAt L c x = na at *
              generalize denAt L c x = da at *
              obtain ⟨tc, tx, tn, td, tok⟩ := t
              dsimp only at *
              cases tok with
              | false =>
                have HCB3 := Lib.hid (show CutBd ⟨c, x, na, da, true⟩ from by have := HCB2.out; simpa using this)
                clear HCB2
                go_wp2_with fail
                go_roundg (q - (j + 1))
                case measure => omega
                case rel => exact ⟨j + 1, ⟨c, x, na, da, true⟩, by go_num, by omega, by omega, rfl, rfl, rfl, rfl, rfl, Lib.hid (by rw [HTK.out, HCS.out]; simp), HCB3, HS8⟩
              | true =>
                by_cases hgt : tn * da < na * td
                · have hg : decide (tn * da < na * td) = true := decide_eq_true hgt
                  have HCB3 := Lib.hid (show CutBd ⟨c, x, na, da, true⟩ from by have := HCB2.out; simpa [hgt] using this)
                  have HEQ := Lib.hid (show (⟨c, x, na, da, true⟩ : Cut) = (ys.take (j + 1)).foldl (cutStep L c) s from by rw [HTK.out, HCS.out]; simp [hgt])
                  clear HCB2 hgt
                  go_wp2_with fail
                  go_roundg (q - (j + 1))
                  case measure => omega
                  case rel => exact ⟨j + 1, ⟨c, x, na, da, true⟩, by go_num, by omega, by omega, rfl, rfl, rfl, rfl, rfl, HEQ, HCB3, HS8⟩
                · have hg : decide (tn * da < na * td) = false := decide_eq_false hgt
                  have HEQ := Lib.hid (show (⟨tc, tx, tn, td, true⟩ : Cut) = (ys.take (j + 1)).foldl (cutStep L c) s from by rw [HTK.out, HCS.out]; simp [hgt])
                  clear HCB2 hgt
                  go_wp2_with fail
                  go_roundg (q - (j + 1))
                  case measure => omega
                  case rel => exact ⟨j + 1, ⟨tc, tx, tn, td, true⟩, by go_num, by omega, by omega, rfl, rfl, rfl, rfl, rfl, HEQ, HCB, HS8⟩
            · obtain rfl : j = q := by omega
              have HE := Lib.hid (show t = bestTo L (c + 1) from by
                rw [HT.out, HB.out]
                show _ = bestIn L c (bestTo L c)
                unfold bestIn
                rw [← HYS.out, List.dropLast_eq_take, HQ.out]
                rfl)
              have HS2 := Lib.hid HS.out.nil
              clear HS HT HB
              go_wp2_with fail
              go_roundg (3 - (c + 1))
              case measure => omega
              case rel => exact ⟨c + 1, t, by go_num, by omega, by omega, rfl, rfl, rfl, rfl, rfl, HE, HCB, HS2⟩
    · obtain rfl : c = 3 := by omega
      have HFI := Lib.hid (show Keep No w wr from HS.out.kp)
      clear HS
      go_wp2_with fail
      go_ret3
      exact ⟨ret_cut HB.out, HFI.out⟩
end Go.Proofs.YtgabidgpngiecaaGreat
