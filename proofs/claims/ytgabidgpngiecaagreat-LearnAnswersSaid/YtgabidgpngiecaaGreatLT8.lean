/- Contract of the closure that grows a tree. Conditions: each names its own. -/
import Derived.Test.YtgabidgpngiecaaGreatLT6
namespace Go.Proofs.YtgabidgpngiecaaGreat
open Go.RowKit Go.Proofs.YtgabidgpngiecaaGreatKit Go.Proofs.YtgabidgpngiecaaGreatPlain

/-- The closure grow: its boxes are those of out, of least and of itself. -/
def growV (ob lb gb : Nat) : Value := .func (.func 35) #[] #[.pointer (some ⟨ob, 0, none⟩), .pointer (some ⟨lb, 0, none⟩), .pointer (some ⟨gb, 0, none⟩)]
/-- What a call of grow gives. -/
def GrowRet (B : Nat) (w : World) (ob lb gb : Nat) (ov : Value) (out : List Br) (least : Int) (left : Nat) (L : List (Row × Nat)) (e : Ending) (w' : World) : Prop :=
  e = .returned (.int .i64 (out.length : Nat)) ∧ ∃ ov', GM B w w' ob lb gb ov ov' (out ++ treeL least left L out.length) least (growV ob lb gb)
/-- What a call of grow needs. -/
structure GrowPre (B Bc : Nat) (w : World) (ob lb gb : Nat) (v ov : Value) (out : List Br) (least : Int) (left : Nat) (L : List (Row × Nat)) : Prop where
  bx : GBox w ob lb gb ov least (growV ob lb gb)
  ou : BOwn B w ov out
  cn : Cnt Bc w v L
  hb : B ≤ w.heap.size
  few : out.length + 2 ^ (left + 1) ≤ 200
  len : (expand L).length ≤ 500
  ok : ∀ p ∈ L, 0 < p.2 ∧ okRow p.1
/-- What a cell holds. -/
def atB (W : World) (a : Addr) : Value := (W.cell? a).getD (.bool false)
theorem atB_blk {W : World} {g : Nat} {t : TypeId} {u : Value} (h : Blk W g t #[u]) : W.cell? ⟨g, 0, none⟩ = some (atB W ⟨g, 0, none⟩) ∧ atB W ⟨g, 0, none⟩ = u := by
  have h1 : W.cell? ⟨g, 0, none⟩ = some u := h.cell 0
  unfold atB
  rw [h1]
  exact ⟨rfl, rfl⟩
def OwnB (ob : Nat) (v : Value) : Nat → Prop := fun k => k = ob ∨ v.ownBlock = some k
theorem info_branch_ok : (Tryz.prog.info? 69).map (fun i => (i.zero, i.size, i.bytes)) = some (some (.agg #[.int .i64 0, .int .i64 0, .int .i64 0, .int .i64 0, .int .i64 0, .int .i64 0]), 6, 48) := info_branch
theorem treeL_leaf {least : Int} {left : Nat} {L : List (Row × Nat)} {at_ : Nat} (h : leafL left least L) : treeL least left L at_ = [leafB L] := by
  cases left with
  | zero => rfl
  | succ m => rw [treeL, if_pos h]
theorem treeL_fork {least : Int} {left : Nat} {L : List (Row × Nat)} {at_ : Nat} {s : Cut} (h : ¬ leafL (left + 1) least L) (hs : s = bestTo L 3) : treeL least (left + 1) L at_ = ⟨s.col, s.cut, (at_ + 1 : Nat), (at_ + 1 + (treeL least left (lowL s.col s.cut L) (at_ + 1)).length : Nat), -1, totC (cnt8 (expand L)) 8⟩ :: (treeL least left (lowL s.col s.cut L) (at_ + 1) ++ treeL least left (highL s.col s.cut L) (at_ + 1 + (treeL least left (lowL s.col s.cut L) (at_ + 1)).length)) := by
  subst hs
  rw [treeL, if_neg h]
set_option maxHeartbeats 1000000 in
set_option maxRecDepth 100000 in
theorem grow_step {B Bc : Nat} {ob lb gb : Nat} {least : Int} (left : Nat) (hleft : left ≤ 6) {w : World} {v ov : Value} {L : List (Row × Nat)} {out : List Br} (hP : GrowPre B Bc w ob lb gb v ov out least left L)
    (ih : left ≠ 0 → ∀ {Bc : Nat} {w : World} {v ov : Value} {L : List (Row × Nat)} {out : List Br}, GrowPre B Bc w ob lb gb v ov out least (left - 1) L → Calls Tryz.prog 35 #[v, .int .i64 ((left - 1 : Nat) : Int), .pointer (some ⟨ob, 0, none⟩), .pointer (some ⟨lb, 0, none⟩), .pointer (some ⟨gb, 0, none⟩)] w (GrowRet B w ob lb gb ov out least (left - 1) L)) :
    Calls Tryz.prog 35 #[v, .int .i64 (left : Nat), .pointer (some ⟨ob, 0, none⟩), .pointer (some ⟨lb, 0, none⟩), .pointer (some ⟨gb, 0, none⟩)] w (GrowRet B w ob lb gb ov out least left L) := by
  obtain ⟨i0, hi0, hz0, hz1, hz2⟩ := info_parts info_branch
  have HP := Lib.hid hP
  have IH := Lib.hid @ih
  have hp2 : 0 < 2 ^ (left + 1) := Nat.two_pow_pos _
  have hol : out.length < 200 := by have := hP.few; omega
  obtain ⟨A, cA, rfl, hcA⟩ := own_shape hP.ou
  have HCA := Lib.hid hcA
  have HOL := Lib.hid hol
  have HLF := Lib.hid hleft
  have HT := Lib.hid (telll_any (g := w.heap.size) (w := w.alloc (.cells #[.int .i64 0, .int .i64 0, .int .i64 0, .int .i64 0, .int .i64 0, .int .i64 0, .int .i64 0, .int .i64 0] 85)) (hP.cn.keep ((Keep.refl No w).alloc _) (fun _ _ x => x)) (Blk.new w _ _) (fun k e e2 => by have := (hP.cn.lt k e).2; omega) hP.len hP.ok)
  have HK0 := Lib.hid ((Keep.refl No w).alloc (.cells #[.int .i64 0, .int .i64 0, .int .i64 0, .int .i64 0, .int .i64 0, .int .i64 0, .int .i64 0, .int .i64 0] 85))
  have hsz : (w.alloc (.cells #[.int .i64 0, .int .i64 0, .int .i64 0, .int .i64 0, .int .i64 0, .int .i64 0, .int .i64 0, .int .i64 0] 85)).heap.size = w.heap.size + 1 := by simp
  have HSZ := Lib.hid hsz
  clear hP ih hcA hol hp2 hleft hsz
  go_enter Tryz.func35, Tryz.ntmps35
  go_wp2_with fail
  generalize w.alloc (.cells #[.int .i64 0, .int .i64 0, .int .i64 0, .int .i64 0, .int .i64 0, .int .i64 0, .int .i64 0, .int .i64 0] 85) = w1 at *
  refine HT.out.mono ?_
  rintro e w2 ⟨rfl, hl2, hk2⟩
  have HM2 := Lib.hid (show GM B w w2 ob lb gb (.slice A out.length cA) (.slice A out.length cA) out least (growV ob lb gb) from by
    have h1 := (GM.start HP.out.bx HP.out.ou).new_ HK0.out
    have hs := HSZ.out
    have l1 := HP.out.bx.out.lt
    have l2 := HP.out.bx.lea.lt
    have l3 := HP.out.bx.fn.lt
    exact ⟨⟨h1.bx.out.keep hk2 (fun e => by omega), h1.bx.lea.keep hk2 (fun e => by omega), h1.bx.fn.keep hk2 (fun e => by omega)⟩, h1.ou.keep hk2 (fun k e e2 => by have := (World.ownsRow.lt HP.out.ou k e).2; omega), h1.at_, h1.kp.trans hk2 (fun k e => .inr (by omega))⟩)
  have HC2 := Lib.hid (show Cnt Bc w2 v L from (HP.out.cn.keep HK0.out (fun _ _ x => x)).keep hk2 (fun k e e2 => by have := (HP.out.cn.lt k e).2; omega))
  have HS2 := Lib.hid (show w.heap.size + 1 ≤ w2.heap.size from by have := hk2.size; rw [HSZ.out] at this; exact this)
  obtain ⟨c, hc⟩ : ∃ c, c = cnt8 (expand L) := ⟨_, rfl⟩
  have HL2 := Lib.hid (show LbC w2 w.heap.size c from hc ▸ LbAt.c hl2)
  have HCE := Lib.hid hc
  have h1000 := cnt8_le HP.out.len
  rw [← hc] at h1000
  have HSq := Lib.hid (fun W => squares_any c h1000 W)
  have HMo := Lib.hid (fun W => most_any c W)
  have HPu := Lib.hid (fun W => pure_any c h1000 W)
  have HTO := Lib.hid (totC_bd h1000 8 (Nat.le_refl _))
  clear hl2 hk2 hc h1000 HT HK0 HSZ
  unfold labV at HSq HMo HPu
  have f0 := HL2.out.at_ (k := 0) (by omega)
  have f1 := HL2.out.at_ (k := 1) (by omega)
  have f2 := HL2.out.at_ (k := 2) (by omega)
  have f3 := HL2.out.at_ (k := 3) (by omega)
  have f4 := HL2.out.at_ (k := 4) (by omega)
  have f5 := HL2.out.at_ (k := 5) (by omega)
  have f6 := HL2.out.at_ (k := 6) (by omega)
  have f7 := HL2.out.at_ (k := 7) (by omega)
  go_wp2_with fail
  clear f0 f1 f2 f3 f4 f5 f6 f7
  refine (HSq.out _).mono ?_
  rintro e w3 ⟨rfl, hk3⟩
  have HM3 := Lib.hid (HM2.out.new_ hk3)
  have HC3 := Lib.hid (HC2.out.keep hk3 (fun _ _ x => x))
  have HS3 := Lib.hid (Nat.le_trans HS2.out hk3.size)
  have HL3 := Lib.hid (show LbC w3 w.heap.size c from Blk.keep HL2.out hk3 (fun x => x))
  clear hk3 HM2 HC2 HS2 HL2 HSq
  generalize hn : totC c 8 = n at *
  have HN := Lib.hid hn
  clear hn
  have hob : B ≤ w3.heap.size := Nat.le_trans HP.out.hb (by have := HS3.out; omega)
  have HOB := Lib.hid hob
  clear hob
  have g0 := HM3.out.bx.out.cell 0
  rw [show (#[Value.slice A out.length cA] : Array Value)[0]? = some (.slice A out.length cA) from rfl] at g0
  go_upto_region 5 with fail
  go_cut [36] (fun _ wx => ∃ (A5 : Option Addr) (c5 : Nat), Hid (out.length + 1 ≤ c5) ∧ Hid (GM B w wx ob lb gb (.slice A out.length cA) (.slice A5 (out.length + 1) c5) (out ++ [⟨0, 0, -1, -1, mostC c 8, n⟩]) least (growV ob lb gb)) ∧ Hid (Keep (OwnB ob (.slice A out.length cA)) w3 wx))
  case first =>
    clear IH HPu HTO HC3 HP HLF HCE
    have f0 := HL3.out.at_ (k := 0) (by omega)
    have f1 := HL3.out.at_ (k := 1) (by omega)
    have f2 := HL3.out.at_ (k := 2) (by omega)
    have f3 := HL3.out.at_ (k := 3) (by omega)
    have f4 := HL3.out.at_ (k := 4) (by omega)
    have f5 := HL3.out.at_ (k := 5) (by omega)
    have f6 := HL3.out.at_ (k := 6) (by omega)
    have f7 := HL3.out.at_ (k := 7) (by omega)
    go_region_law (first
      | (go_simp; go_at_call 37; refine Calls.mono (HMo.out _) ?_; rintro e w4 ⟨rfl, hk4⟩; have hk5 : Keep No w3 w4 := hk4.of_drew; have K4 := Lib.hid (show Keep (OwnB ob (.slice A out.length cA)) w3 w4 from hk5.mono (fun _ x => False.elim x)); have HM4 := Lib.hid (HM3.out.new_ hk5); have HB4 := Lib.hid (Nat.le_trans HOB.out hk5.size); have q1 : w4.cell? ⟨ob, 0, none⟩ = some (.slice A out.length cA) := HM4.out.bx.out.cell 0; have q2 : (w4.alloc (.cells (Br.cells ⟨0, 0, -1, -1, mostC c 8, n⟩).toArray 69)).cell? ⟨ob, 0, none⟩ = some (.slice A out.length cA) := (HM4.out.bx.out.alloc _).cell 0; simp only [Br.cells] at q2; clear hk4 hk5)
      | (refine step_append_any _ (by rfl) _ _ _ (by rfl) B 69 i0 _ 6 48 Tryz.underlying49 hi0 hz0 hz1 hz2 rfl (by omega) _ out.length (bcells out) (by rfl) (own_keep HM4.out.ou ((Keep.refl No _).alloc _) (fun _ _ x => x)) B _ 1 1 (Br.cells ⟨0, 0, -1, -1, mostC c 8, n⟩) (by rfl) (rec_new (by rfl)) (by simp [Value.oneCell', Br.cells]) (by have := HOL.out; simp only [maxLen]; omega) (by have := HOL.out; omega) (by have h1 : B ≤ w4.heap.size := HB4.out; simp; omega) ?_; intro v5 w5 hown5 hg5 hat5; obtain ⟨A5, c5, hv5, hc5⟩ := own_shape hown5; subst hv5; have HCA5 := Lib.hid hc5; clear hc5; have HM5 := Lib.hid (GM.push HM4.out hown5 hg5 hat5); have K5 := Lib.hid (show Keep (OwnB ob (.slice A out.length cA)) w3 w5 from (K4.out.alloc _).grown hg5 (fun k e => .inl (.inr e))); have B5 := GM.pushb HM4.out hg5; have q3 := B5.cell 0; have q4 := B5.frozen 0; have HB5 := Lib.hid B5; have K6 := Lib.hid (K5.out.setCell (p := ⟨ob, 0, none⟩) (.inl (.inl rfl)) (.slice A5 (out.length + 1) c5)); clear hown5 hg5 hat5 B5))
    all_goals
      go_wp2_with fail
      go_meet
      exact ⟨A5, c5, HCA5, HM5, K6⟩
  case rest =>
    clear g0 HMo
    obtain ⟨A5, c5, HC5, HM5, HK5⟩ := hcut
    have HCW := Lib.hid (show Cnt Bc wc v L from HC3.out.keep HK5.out (fun k e h => h.elim (fun h => own_blk_ne HC3.out HM3.out.bx.out (by decide) (h ▸ e)) (own_own_ne HC3.out HM3.out.ou (by decide) k e)))
    have HLW := Lib.hid (show LbC wc w.heap.size c from Blk.keep HL3.out HK5.out (fun h => h.elim (Blk.ne_ HL3.out HM3.out.bx.out (by decide)) (own_blk_ne HM3.out.ou HL3.out (by decide))))
    have HSW := Lib.hid (Nat.le_trans HS3.out HK5.out.size)
    have hbe : (⟨0, 0, -1, -1, mostC c 8, n⟩ : Br) = leafB L := by unfold leafB; rw [← HCE.out, HN.out]
    rw [hbe] at HM5
    have HLEAF := Lib.hid (show ∀ W, leafL left least L → GM B w W ob lb gb (.slice A out.length cA) (.slice A5 (out.length + 1) c5) (out ++ [leafB L]) least (growV ob lb gb) → GrowRet B w ob lb gb (.slice A out.length cA) out least left L (.returned (.int .i64 (out.length : Nat))) W from fun W h hm => ⟨rfl, _, by rw [treeL_leaf h]; exact hm⟩)
    have HDN := Lib.hid (show n < least ↔ totC (cnt8 (expand L)) 8 < least from by rw [← HCE.out, HN.out])
    have HDT := Lib.hid (show totC (cnt8 (expand L)) 8 = n from by rw [← HCE.out, HN.out])
    have HDP := Lib.hid (show PureC c ↔ PureC (cnt8 (expand L)) from by rw [← HCE.out])
    clear HM3 HC3 HL3 HK5 hbe HCE HN HS3 HOB
    by_cases h0 : left = 0
    · have hd : decide ((left : Int) = 0) = true := decide_eq_true (by omega)
      have H0 := Lib.hid h0
      clear h0
      go_wp2_with fail
      go_ret
      exact HLEAF.out _ (.inl H0.out) HM5.out
    obtain ⟨m, rfl⟩ : ∃ m, left = m + 1 := ⟨left - 1, by omega⟩
    have hd : decide (((m + 1 : Nat) : Int) = 0) = false := decide_eq_false (by omega)
    clear h0
    have l0 : wc.cell? ⟨lb, 0, none⟩ = some (.int .i64 least) := HM5.out.bx.lea.cell 0
    by_cases h1 : n < least
    · have hd1 : decide (n < least) = true := decide_eq_true h1
      have H1 := Lib.hid h1
      clear h1
      go_wp2_with fail
      go_ret
      exact HLEAF.out _ (.inr (.inl (HDN.out.1 H1.out))) HM5.out
    have hd1 : decide (n < least) = false := decide_eq_false h1
    have H1 := Lib.hid h1
    clear h1
    have f0 := HLW.out.at_ (k := 0) (by omega)
    have f1 := HLW.out.at_ (k := 1) (by omega)
    have f2 := HLW.out.at_ (k := 2) (by omega)
    have f3 := HLW.out.at_ (k := 3) (by omega)
    have f4 := HLW.out.at_ (k := 4) (by omega)
    have f5 := HLW.out.at_ (k := 5) (by omega)
    have f6 := HLW.out.at_ (k := 6) (by omega)
    have f7 := HLW.out.at_ (k := 7) (by omega)
    go_wp2_with fail
    clear f0 f1 f2 f3 f4 f5 f6 f7 l0
    refine (HPu.out _).mono ?_
    rintro e w6 ⟨rfl, hk6⟩
    have HM6 := Lib.hid (HM5.out.new_ hk6)
    have HC6 := Lib.hid (HCW.out.keep hk6 (fun _ _ x => x))
    clear hk6 HM5 HCW HPu HLW HSW
    by_cases h2 : PureC c
    · have hd2 : decide (PureC c) = true := decide_eq_true h2
      have H2 := Lib.hid h2
      clear h2
      rw [hd2]
      go_wp2_with fail
      go_ret
      exact HLEAF.out _ (.inr (.inr (.inl (HDP.out.1 H2.out)))) HM6.out
    have hd2 : decide (PureC c) = false := decide_eq_false h2
    have H2 := Lib.hid h2
    clear h2
    rw [hd2]
    have hLp : 0 < L.length := by
      refine Nat.pos_of_ne_zero fun e => H2.out (HDP.out.2 ?_)
      rw [List.length_eq_zero_iff.1 e]
      exact pure_nil
    have HBe := Lib.hid (best_any HC6.out hLp HP.out.len HP.out.ok)
    have hL5 : L.length ≤ 500 := Nat.le_trans (expand_len HP.out.ok) HP.out.len
    have HL5 := Lib.hid hL5
    clear hLp hL5 hd1 hd2
    obtain ⟨s, hs⟩ : ∃ s, s = bestTo L 3 := ⟨_, rfl⟩
    have HS := Lib.hid hs
    have HCO := Lib.hid (best_some (L := L) 3)
    rw [← hs] at HBe HCO
    clear hs
    obtain ⟨sc, sx, sn, sd, sok⟩ := s
    dsimp only at HBe HCO
    go_wp2_with fail
    refine HBe.out.mono ?_
    rintro e w7 ⟨rfl, hk7⟩
    have HM7 := Lib.hid (HM6.out.new_ hk7)
    have HC7 := Lib.hid (HC6.out.keep hk7 (fun _ _ x => x))
    clear hk7 HM6 HC6 HBe
    cases sok with
    | false =>
      go_wp2_with fail
      go_ret
      exact HLEAF.out _ (.inr (.inr (.inr (by rw [← HS.out])))) HM7.out
    | true =>
      have hc3 := (HCO.out rfl).1
      have HSp := Lib.hid (split_any sc sx HC7.out hc3 HL5.out)
      clear hc3
      go_wp2_with fail
      refine HSp.out.mono ?_
      rintro e w8 ⟨lv, hv, rfl, hsp⟩
      have HM8 := Lib.hid (HM7.out.new_ hsp.kp)
      have HSP := Lib.hid hsp
      clear hsp HSp HM7 HC7
      have hgl := HM8.out.bx.fn.cell 0
      rw [show (#[growV ob lb gb] : Array Value)[0]? = some (growV ob lb gb) from rfl] at hgl
      unfold growV at hgl
      have HI1 := Lib.hid (IH.out (by omega) (show GrowPre B w7.heap.size w8 ob lb gb lv (.slice A5 (out.length + 1) c5) (out ++ [leafB L]) least (m + 1 - 1) (lowL sc sx L) from
        ⟨HM8.out.bx, HM8.out.ou, HSP.out.lo, Nat.le_trans HP.out.hb HM8.out.kp.size, by have := HP.out.few; have := Nat.one_le_two_pow (n := m + 1); rw [Nat.pow_succ] at this; simp only [List.length_append, List.length_singleton, Nat.add_sub_cancel]; rw [Nat.pow_succ] at *; omega, by have := HP.out.len; have := expand_low (c := sc) (x := sx) (L := L); omega, fun p hp => HP.out.ok p (List.mem_filter.1 hp).1⟩))
      rw [Nat.add_sub_cancel] at HI1
      have HW := Lib.hid (show wrap64 (m : Int) = (m : Int) from by have := HLF.out; unfold wrap64; omega)
      go_wp2_with fail
      clear hgl
      rw [HW.out]
      refine HI1.out.mono ?_
      rintro e w9 ⟨rfl, ov9, hm9⟩
      obtain ⟨A1, hA1⟩ : ∃ A1, A1 = treeL least m (lowL sc sx L) (out ++ [leafB L]).length := ⟨_, rfl⟩
      rw [← hA1] at hm9
      have HA1 := Lib.hid hA1
      have hA1l : A1.length + 1 ≤ 2 ^ (m + 1) := hA1 ▸ treeL_len ..
      have HHI := Lib.hid (show Cnt w7.heap.size w9 hv (highL sc sx L) from HSP.out.hi.keep hm9.kp (fun k e h => h.elim (fun h => own_blk_ne HSP.out.hi HM8.out.bx.out (by decide) (h ▸ e)) (own_own_ne HSP.out.hi HM8.out.ou (by decide) k e)))
      have HM9 := Lib.hid (HM8.out.trans hm9)
      have HI2 := Lib.hid (IH.out (by omega) (show GrowPre B w7.heap.size w9 ob lb gb hv ov9 (out ++ [leafB L] ++ A1) least (m + 1 - 1) (highL sc sx L) from
        ⟨hm9.bx, hm9.ou, HHI.out, Nat.le_trans HP.out.hb HM9.out.kp.size, by have := HP.out.few; simp only [List.length_append, List.length_singleton, Nat.add_sub_cancel]; rw [Nat.pow_succ] at *; omega, by have := HP.out.len; have := expand_low (c := sc) (x := sx) (L := L); omega, fun p hp => HP.out.ok p (List.mem_filter.1 hp).1⟩))
      rw [Nat.add_sub_cancel] at HI2
      have hgl := HM9.out.bx.fn.cell 0
      rw [show (#[growV ob lb gb] : Array Value)[0]? = some (growV ob lb gb) from rfl] at hgl
      unfold growV at hgl
      obtain ⟨lo, hlo⟩ : ∃ lo, lo = (out ++ [leafB L]).length := ⟨_, rfl⟩
      have HLO := Lib.hid hlo
      rw [← hlo]
      clear hA1 hA1l hm9 HI1 HM8 hlo
      go_wp2_with fail
      clear hgl
      rw [HW.out]
      refine HI2.out.mono ?_
      rintro e w10 ⟨rfl, ov10, hm10⟩
      obtain ⟨A2, hA2⟩ : ∃ A2, A2 = treeL least m (highL sc sx L) (out ++ [leafB L] ++ A1).length := ⟨_, rfl⟩
      rw [← hA2] at hm10
      have HA2 := Lib.hid hA2
      have hm11 := HM9.out.trans hm10
      rw [show out ++ [leafB L] ++ A1 ++ A2 = out ++ leafB L :: (A1 ++ A2) from by simp] at hm11
      obtain ⟨g, cg, rfl, hcg, hcell, hfrz⟩ := own_cells hm11.ou (by simp; omega)
      have HMA := Lib.hid hm11
      obtain ⟨hi, hhi⟩ : ∃ hi, hi = (out ++ [leafB L] ++ A1).length := ⟨_, rfl⟩
      have HHI2 := Lib.hid hhi
      rw [← hhi]
      obtain ⟨N, hN⟩ : ∃ N, N = (out ++ leafB L :: (A1 ++ A2)).length := ⟨_, rfl⟩
      have hNo : (out.length : Int) < (N : Int) := by rw [hN]; simp; omega
      have hobx := HMA.out.bx.out.cell 0
      rw [← hN] at hobx
      have hob0 : (0 : Int) ≤ (out.length : Int) := by omega
      have c0 : w10.cell? ⟨g, out.length * 6, none⟩ = some (.int .i64 0) := hcell (out.length * 6 + 0) _ ((bcells_at out (A1 ++ A2) (leafB L) (by omega)).trans rfl)
      have r0 : w10.frozen? ⟨g, out.length * 6, none⟩ = false := hfrz _
      have c1 : w10.cell? ⟨g, out.length * 6 + 1, none⟩ = some (.int .i64 0) := hcell (out.length * 6 + 1) _ ((bcells_at out (A1 ++ A2) (leafB L) (by omega)).trans rfl)
      have r1 : w10.frozen? ⟨g, out.length * 6 + 1, none⟩ = false := hfrz _
      have c2 : w10.cell? ⟨g, out.length * 6 + 2, none⟩ = some (.int .i64 (-1)) := hcell (out.length * 6 + 2) _ ((bcells_at out (A1 ++ A2) (leafB L) (by omega)).trans rfl)
      have r2 : w10.frozen? ⟨g, out.length * 6 + 2, none⟩ = false := hfrz _
      have c3 : w10.cell? ⟨g, out.length * 6 + 3, none⟩ = some (.int .i64 (-1)) := hcell (out.length * 6 + 3) _ ((bcells_at out (A1 ++ A2) (leafB L) (by omega)).trans rfl)
      have r3 : w10.frozen? ⟨g, out.length * 6 + 3, none⟩ = false := hfrz _
      have c4 : w10.cell? ⟨g, out.length * 6 + 4, none⟩ = some (.int .i64 (mostC (cnt8 (expand L)) 8 : Nat)) := hcell (out.length * 6 + 4) _ ((bcells_at out (A1 ++ A2) (leafB L) (by omega)).trans rfl)
      have r4 : w10.frozen? ⟨g, out.length * 6 + 4, none⟩ = false := hfrz _
      have c5 : w10.cell? ⟨g, out.length * 6 + 5, none⟩ = some (.int .i64 (totC (cnt8 (expand L)) 8)) := hcell (out.length * 6 + 5) _ ((bcells_at out (A1 ++ A2) (leafB L) (by omega)).trans rfl)
      have r5 : w10.frozen? ⟨g, out.length * 6 + 5, none⟩ = false := hfrz _
      clear hA2 hm10 hm11 HM9 HI2 hhi hN hcell hfrz
      go_wp2_with fail
      go_ret
      have hnl : ¬ leafL (m + 1) least L := fun h => by
        rcases h with h | h | h | h
        · omega
        · exact absurd (HDN.out.2 h) (by have := H1.out; omega)
        · exact H2.out (HDP.out.2 h)
        · rw [← HS.out] at h
          cases h
      have hf := treeL_fork (at_ := out.length) hnl HS.out
      dsimp only at hf
      have e1 : (out ++ [leafB L]).length = out.length + 1 := by simp
      have e2 : (out ++ [leafB L] ++ A1).length = out.length + 1 + A1.length := by simp; omega
      have a1 := HA1.out
      have a2 := HA2.out
      rw [e1] at a1
      rw [e2] at a2
      rw [← a1, ← a2] at hf
      have l1 := HLO.out
      have l2 := HHI2.out
      rw [e1] at l1
      rw [e2] at l2
      have hN2 : totC (cnt8 (expand L)) 8 = n := HDT.out
      rw [← l2, ← l1, hN2] at hf
      have hz := HMA.out.put ⟨sc, sx, lo, hi, -1, n⟩
      rw [← hf] at hz
      exact ⟨rfl, _, hz⟩
/-- A call of grow. -/
theorem grow_any {B : Nat} {ob lb gb : Nat} {least : Int} : ∀ (left : Nat), left ≤ 6 → ∀ {Bc : Nat} {w : World} {v ov : Value} {L : List (Row × Nat)} {out : List Br}, GrowPre B Bc w ob lb gb v ov out least left L →
    Calls Tryz.prog 35 #[v, .int .i64 (left : Nat), .pointer (some ⟨ob, 0, none⟩), .pointer (some ⟨lb, 0, none⟩), .pointer (some ⟨gb, 0, none⟩)] w (GrowRet B w ob lb gb ov out least left L) := by
  intro left
  induction left with
  | zero =>
    intro hl Bc w v ov L out h
    exact grow_step 0 hl h (fun h => absurd rfl h)
  | succ m ih =>
    intro hl Bc w v ov L out h
    exact grow_step (m + 1) hl h (fun _ => by intro Bc w v ov L out h; exact ih (by omega) h)
end Go.Proofs.YtgabidgpngiecaaGreat
