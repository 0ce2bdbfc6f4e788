/- The reference's choose. Conditions: each names its own. -/
import Derived.Test.YtgabidgpngiecaaGreatRTP
import Derived.Deep.CutBlock
namespace Go.Proofs.YtgabidgpngiecaaGreat
open Go.RowKit Go.Proofs.YtgabidgpngiecaaGreatKit Go.Proofs.YtgabidgpngiecaaGreatPlain

/-- What choose holds. -/
structure ChS (w W : World) (s : Cut) (ln ld : Int) : Prop where
  re : Blk W w.heap.size 126 #[.int .i64 0, .int .i64 0, .bool false]
  be : Blk W (w.heap.size + 1) 126 #[.int .i64 (s.col : Nat), .int .i64 s.cut, .bool s.ok]
  le : Blk W (w.heap.size + 1 + 1) 110 #[.int .i64 ln, .int .i64 ld]
  kp : Keep No w W
theorem ChS.new_ {w W W' : World} {s : Cut} {ln ld : Int} (h : ChS w W s ln ld) (hk : Keep No W W') : ChS w W' s ln ld := ⟨h.re.keep hk (fun y => y), h.be.keep hk (fun y => y), h.le.keep hk (fun y => y), h.kp.trans hk (fun _ y => y.elim)⟩
theorem ChS.upd {w W : World} {s : Cut} {ln ld : Int} (h : ChS w W s ln ld) (k : Nat) (x mn md a b : Int) : ChS w (((((W.drew.setCell ⟨w.heap.size + 1, 0, none⟩ (.int .i64 (k : Nat))).setCell ⟨w.heap.size + 1, 1, none⟩ (.int .i64 x)).setCell ⟨w.heap.size + 1, 2, none⟩ (.bool true)).setCell ⟨w.heap.size + 1 + 1, 0, none⟩ (.int .i64 mn)).setCell ⟨w.heap.size + 1 + 1, 1, none⟩ (.int .i64 md)) ⟨k, x, a, b, true⟩ mn md := by
  have k1 : Keep (fun q => q = w.heap.size + 1) W (((W.drew.setCell ⟨w.heap.size + 1, 0, none⟩ (.int .i64 (k : Nat))).setCell ⟨w.heap.size + 1, 1, none⟩ (.int .i64 x)).setCell ⟨w.heap.size + 1, 2, none⟩ (.bool true)) := ((((Keep.refl (fun q => q = w.heap.size + 1) W).drew).setCell (p := ⟨w.heap.size + 1, 0, none⟩) (.inl rfl) _).setCell (p := ⟨w.heap.size + 1, 1, none⟩) (.inl rfl) _).setCell (p := ⟨w.heap.size + 1, 2, none⟩) (.inl rfl) _
  have b1 : Blk (((W.drew.setCell ⟨w.heap.size + 1, 0, none⟩ (.int .i64 (k : Nat))).setCell ⟨w.heap.size + 1, 1, none⟩ (.int .i64 x)).setCell ⟨w.heap.size + 1, 2, none⟩ (.bool true)) (w.heap.size + 1) 126 #[.int .i64 (k : Nat), .int .i64 x, .bool true] := ((h.be.drew.set_ 0 _).set_ 1 _).set_ 2 _
  have r1 := h.re.keep k1 (by omega)
  have l1 := h.le.keep k1 (by omega)
  have k2 := h.kp.trans k1 (fun q e => .inr (by omega))
  generalize ((W.drew.setCell ⟨w.heap.size + 1, 0, none⟩ (.int .i64 (k : Nat))).setCell ⟨w.heap.size + 1, 1, none⟩ (.int .i64 x)).setCell ⟨w.heap.size + 1, 2, none⟩ (.bool true) = W1 at *
  have k3 : Keep (fun q => q = w.heap.size + 1 + 1) W1 ((W1.setCell ⟨w.heap.size + 1 + 1, 0, none⟩ (.int .i64 mn)).setCell ⟨w.heap.size + 1 + 1, 1, none⟩ (.int .i64 md)) := ((Keep.refl (fun q => q = w.heap.size + 1 + 1) W1).setCell (p := ⟨w.heap.size + 1 + 1, 0, none⟩) (.inl rfl) _).setCell (p := ⟨w.heap.size + 1 + 1, 1, none⟩) (.inl rfl) _
  exact ⟨r1.keep k3 (by omega), b1.keep k3 (by omega), (l1.set_ 0 _).set_ 1 _, k2.trans k3 (fun q e => .inr (by omega))⟩
theorem ChS.start (w : World) : ChS w (((w.alloc (.cells #[.int .i64 0, .int .i64 0, .bool false] 126)).alloc (.cells #[.int .i64 0, .int .i64 0, .bool false] 126)).alloc (.cells #[.int .i64 0, .int .i64 0] 110)) ⟨0, 0, 0, 0, false⟩ 0 0 := by
  have e1 : (w.alloc (.cells #[.int .i64 0, .int .i64 0, .bool false] 126)).heap.size = w.heap.size + 1 := by simp
  have e2 : ((w.alloc (.cells #[.int .i64 0, .int .i64 0, .bool false] 126)).alloc (.cells #[.int .i64 0, .int .i64 0, .bool false] 126)).heap.size = w.heap.size + 1 + 1 := by simp
  have b1 := Blk.new (w.alloc (.cells #[.int .i64 0, .int .i64 0, .bool false] 126)) 126 #[.int .i64 0, .int .i64 0, .bool false]
  have b2 := Blk.new ((w.alloc (.cells #[.int .i64 0, .int .i64 0, .bool false] 126)).alloc (.cells #[.int .i64 0, .int .i64 0, .bool false] 126)) 110 #[.int .i64 0, .int .i64 0]
  rw [e1] at b1
  rw [e2] at b2
  exact ⟨((Blk.new w _ _).alloc _).alloc _, b1.alloc _, b2, (((Keep.refl No w).alloc _).alloc _).alloc _⟩
/-- The fraction of the least measure beside the best worth. -/
structure ChN (n : Int) (s : Cut) (ln ld : Int) : Prop where
  yes : s.ok = true → ln = n * s.den - s.num ∧ ld = s.den
  no : s.ok = false → ln = 0 ∧ ld = 0
  b : -9000000000 ≤ ln ∧ ln ≤ 9000000000 ∧ 0 ≤ ld ∧ ld ≤ 250000
theorem me_lt {n a d A D : Int} : (n * d - a) * D < (n * D - A) * d ↔ A * d < a * D := by
  have e1 : (n * d - a) * D = n * d * D - a * D := by rw [Int.sub_mul]
  have e2 : (n * D - A) * d = n * d * D - A * d := by rw [Int.sub_mul, Int.mul_right_comm n D d]
  rw [e1, e2]
  omega
theorem me_eq {n a d A D : Int} : (n * d - a) * D = (n * D - A) * d ↔ A * d = a * D := by
  have e1 : (n * d - a) * D = n * d * D - a * D := by rw [Int.sub_mul]
  have e2 : (n * D - A) * d = n * d * D - A * d := by rw [Int.sub_mul, Int.mul_right_comm n D d]
  rw [e1, e2]
  omega
theorem m_bd {lo hi : List Row} (hl : lo.length + hi.length ≤ 500) : -9000000000 ≤ mNum lo hi ∧ mNum lo hi ≤ 9000000000 ∧ 0 ≤ mDen lo hi ∧ mDen lo hi ≤ 250000 := by
  have b1 := sqC_bd (cnt8_le (T := lo) (by omega)) 8 (Nat.le_refl _)
  have b2 := sqC_bd (cnt8_le (T := hi) (by omega)) 8 (Nat.le_refl _)
  unfold mNum mDen
  generalize sqC (cnt8 lo) 8 = s1 at *
  generalize sqC (cnt8 hi) 8 = s2 at *
  obtain ⟨a, ha⟩ : ∃ a : Int, a = lo.length := ⟨_, rfl⟩
  obtain ⟨b, hb⟩ : ∃ b : Int, b = hi.length := ⟨_, rfl⟩
  have ha5 : 0 ≤ a ∧ a ≤ 500 := by omega
  have hb5 : 0 ≤ b ∧ b ≤ 500 := by omega
  rw [← ha, ← hb]
  have p1 := mul_bd (U := 500) (V := 500) (u := a) (v := a) (by omega) (by omega)
  have p2 := mul_bd (U := 500) (V := 500) (u := b) (v := b) (by omega) (by omega)
  have p3 := mul_in (X := 500) (Y := 500) ha5.1 ha5.2 hb5.1 hb5.2
  have p4 := mul_bd (U := 9000000) (V := 500) (u := a * a - s1) (v := b) (by omega) (by omega)
  have p5 := mul_bd (U := 9000000) (V := 500) (u := b * b - s2) (v := a) (by omega) (by omega)
  omega
theorem info_size_chosen : (Tryz.prog.info? 126).map (·.size) = some 3 := by kernel_rfl
set_option maxHeartbeats 8000000 in
set_option maxRecDepth 100000 in
theorem rchoose_any {B : Nat} {w : World} {v : Value} {l : List Row} (h : RIn B w v l) (hok : ∀ r ∈ l, okRow r) (hl : l.length ≤ 500) :
    Calls Tryz.prog 66 #[v] w fun e w' => ∃ s : Cut, e = .returned (.agg #[.int .i64 (s.col : Nat), .int .i64 s.cut, .bool s.ok]) ∧ Best l (Pr l 3 0) s ∧ (s.ok = false → s.col = 0 ∧ s.cut = 0) ∧ Keep No w w' := by
  have HR := Lib.hid h
  have HOK := Lib.hid hok
  obtain ⟨A, c, rfl, hc, _⟩ := h
  have H0 := Lib.hid (ChS.start w)
  clear hok
  go_enter Tryz.func66, Tryz.ntmps66
  go_wp2_with fail
  generalize ((w.alloc (.cells #[.int .i64 0, .int .i64 0, .bool false] 126)).alloc (.cells #[.int .i64 0, .int .i64 0, .bool false] 126)).alloc (.cells #[.int .i64 0, .int .i64 0] 110) = w1 at *
  go_loopg [5] 3 (fun kx s5 wr => ∃ (k : Nat) (s : Cut) (ln ld : Int), s5 = .int .i64 k ∧ k ≤ 3 ∧ 3 ≤ k + kx ∧ Hid (ChS w wr s ln ld) ∧ Hid (ChN l.length s ln ld) ∧ Hid (Best l (Pr l k 0) s ∧ (s.ok = false → s.col = 0 ∧ s.cut = 0)))
  case atStart => exact ⟨0, ⟨0, 0, 0, 0, false⟩, 0, 0, rfl, by omega, by omega, H0, Lib.hid ⟨fun h => (by cases h), fun _ => ⟨rfl, rfl⟩, by omega⟩, Lib.hid ⟨⟨fun _ c x => Pr.start l c x, fun h => (by cases h)⟩, fun _ => ⟨rfl, rfl⟩⟩⟩
  case round =>
    clear H0
    obtain ⟨k, s, ln, ld, rfl, hk, hkx, HS, HN, HB⟩ := hrel
    have j0 : (0 : Int) ≤ (k : Int) := by omega
    by_cases h3 : k < 3
    · have j1 : (k : Int) < 3 := by omega
      have hgd : decide ((k : Int) < 3) = true := decide_eq_true j1
      have hgd' : decide (k < 3) = true := decide_eq_true h3
      go_wp2_with fail
      go_loopg [6] l.length (fun ky s6 wr => ∃ (i : Nat) (s : Cut) (ln ld : Int), s6 = .int .i64 i ∧ i ≤ l.length ∧ l.length ≤ i + ky ∧ Hid (ChS w wr s ln ld) ∧ Hid (ChN l.length s ln ld) ∧ Hid (Best l (Pr l k i) s ∧ (s.ok = false → s.col = 0 ∧ s.cut = 0)))
      case atStart => exact ⟨0, s, ln, ld, rfl, by omega, by omega, HS, HN, HB⟩
      case round =>
        clear HS HN HB s ln ld
        obtain ⟨i, s, ln, ld, rfl, hi, hiy, HS, HN, HB⟩ := hrel
        have i0 : (0 : Int) ≤ (i : Int) := by omega
        by_cases hlt : i < l.length
        · have i1 : (i : Int) < (l.length : Int) := by omega
          have hgi : decide ((i : Int) < (l.length : Int)) = true := decide_eq_true i1
          obtain ⟨A0, c0, eA, _, hR⟩ := HR.out.new_ HS.out.kp
          injection eA with eA en ec
          clear en
          subst eA
          subst ec
          obtain ⟨ad, hA, ex⟩ := RowsIn.x hR hlt h3
          subst hA
          have HCU := Lib.hid (rcut_any k (l[i].x k) h3 (HR.out.new_ HS.out.kp) hl)
          have HXI := Lib.hid (show ∀ P : Int → Prop, P (l[i].x k) → P (l[i].x k) from fun _ h => h)
          have HSK := Lib.hid (fun (hn : ¬ cand l k (l[i].x k)) c' x' => Pr.skip hlt hn c' x')
          have HMO := Lib.hid (fun (hn : cand l k (l[i].x k)) c' x' => Pr.more hlt hn c' x')
          have HIN := Lib.hid (show ∃ r ∈ l, r.x k = l[i].x k from ⟨_, List.getElem_mem hlt, rfl⟩)
          clear hR HXI
          generalize l[i].x k = x at *
          go_wp2_with fail
          refine HCU.out.mono ?_
          rintro e w5 ⟨lv, hv, rfl, hlo, hhi, hk5⟩
          obtain ⟨A1, c1, rfl, _⟩ := own_shape hlo
          obtain ⟨A2, c2, rfl, _⟩ := own_shape hhi
          have HS5 := Lib.hid (HS.out.new_ hk5)
          have HLH := Lib.hid (show RIn 0 w5 (.slice A1 (lowC k x l).length c1) (lowC k x l) ∧ RIn 0 w5 (.slice A2 (highC k x l).length c2) (highC k x l) from ⟨hlo.rin, hhi.rin⟩)
          clear hlo hhi hk5 HCU HS ex
          by_cases hz : (highC k x l).length = 0
          · have hzz : (((highC k x l).length : Int) == 0) = true := by rw [hz]; rfl
            have hnc : ¬ cand l k x := by
              rintro ⟨_, r, hr, hlt2⟩
              have : r ∈ highC k x l := List.mem_filter.2 ⟨hr, by simp; omega⟩
              rw [List.eq_nil_of_length_eq_zero hz] at this
              cases this
            have HBN := Lib.hid (show Best l (Pr l k (i + 1)) s ∧ (s.ok = false → s.col = 0 ∧ s.cut = 0) from ⟨HB.out.1.congr (HSK.out hnc), HB.out.2⟩)
            have HS6 := Lib.hid (HS5.out.new_ ((Keep.refl No w5).alloc (.cells #[.slice A1 (lowC k x l).length c1, .slice A2 (highC k x l).length c2] 130)))
            clear hz hnc HS5 HLH HB
            go_wp2_with fail
            go_roundg (l.length - (i + 1))
            case measure => omega
            case rel => exact ⟨i + 1, s, ln, ld, by go_num, by omega, by omega, HS6, HN, HBN⟩
          · have hzz : (((highC k x l).length : Int) == 0) = false := beq_eq_false_iff_ne.2 (by omega)
            have hzz' : ((highC k x l).length == 0) = false := beq_eq_false_iff_ne.2 hz
            have hcd : cand l k x := by
              obtain ⟨r, hr⟩ := List.exists_mem_of_length_pos (Nat.pos_of_ne_zero hz)
              have h1 := List.mem_filter.1 hr
              exact ⟨HIN.out, r, h1.1, by have := h1.2; simp at this; omega⟩
            have HCD := Lib.hid hcd
            have hll := low_high_len k x l
            have HME := Lib.hid (rmeasure_any (HLH.out.1.new_ ((Keep.refl No w5).alloc (.cells #[.slice A1 (lowC k x l).length c1, .slice A2 (highC k x l).length c2] 130))) (HLH.out.2.new_ ((Keep.refl No w5).alloc _)) (low_ok HOK.out) (high_ok HOK.out) (by omega))
            have hbd := m_bd (lo := lowC k x l) (hi := highC k x l) (by omega)
            have hme := measure_eq (c := k) (x := x) HOK.out
            obtain ⟨mn, hmn⟩ : ∃ mn, mn = mNum (lowC k x l) (highC k x l) := ⟨_, rfl⟩
            obtain ⟨md, hmd⟩ : ∃ md, md = mDen (lowC k x l) (highC k x l) := ⟨_, rfl⟩
            rw [← hmn, ← hmd] at HME hbd hme
            have HMM := Lib.hid hme
            have HS6 := Lib.hid (HS5.out.new_ ((Keep.refl No w5).alloc (.cells #[.slice A1 (lowC k x l).length c1, .slice A2 (highC k x l).length c2] 130)))
            clear hz hcd hll hme hmn hmd HS5 HLH
            go_wp2_with fail
            refine HME.out.mono ?_
            rintro e w6 ⟨rfl, hk6⟩
            have HS6b := Lib.hid (HS6.out.new_ hk6)
            clear HS6 HME hk6
            go_upto_region 13 with fail
            have HM7 := Lib.hid (Blk.new w6 110 #[.int .i64 mn, .int .i64 md])
            have HS7 := Lib.hid (HS6b.out.new_ ((Keep.refl No w6).alloc (.cells #[.int .i64 mn, .int .i64 md] 110)))
            have hg9 : w.heap.size + 1 + 1 < w6.heap.size := HS6b.out.le.lt
            clear HS6b hzz hzz'
            generalize w6.alloc (.cells #[.int .i64 mn, .int .i64 md] 110) = w7 at *
            generalize w6.heap.size = g9 at *
            have hn1 : g9 ≠ w.heap.size + 1 := by omega
            have hn2 : g9 ≠ w.heap.size + 1 + 1 := by omega
            have hn3 : w.heap.size + 1 ≠ g9 := by omega
            have hn4 : w.heap.size + 1 + 1 ≠ g9 := by omega
            clear hg9
            have m0 := HM7.out.cell 0
            have m1 := HM7.out.cell 1
            have l0 := HS7.out.le.cell 0
            have l1 := HS7.out.le.cell 1
            have b0 := HS7.out.be.cell 0
            have b1 := HS7.out.be.cell 1
            have b2 := HS7.out.be.cell 2
            have z0 := HS7.out.be.frozen 0
            have z1 := HS7.out.be.frozen 1
            have z2 := HS7.out.be.frozen 2
            have y0 := HS7.out.le.frozen 0
            have y1 := HS7.out.le.frozen 1
            simp only [List.getElem?_toArray, List.getElem?_cons_zero, List.getElem?_cons_succ] at m0 m1 l0 l1 b0 b1 b2
            have hnb := HN.out.b
            have p1 := mul_bd (U := 9000000000) (V := 250000) (u := mn) (v := ld) (by omega) (by omega)
            have p2 := mul_bd (U := 9000000000) (V := 250000) (u := ln) (v := md) (by omega) (by omega)
            have q1 : IntKind.i64.wrap (mn * ld) = mn * ld := fit64 (by omega) (by omega)
            have q2 : IntKind.i64.wrap (ln * md) = ln * md := fit64 (by omega) (by omega)
            have HCN := Lib.hid (show ChN l.length ⟨k, x, nT l k x, dT l k x, true⟩ mn md from ⟨fun _ => HMM.out, fun h => (by cases h), hbd⟩)
            have HUP := Lib.hid (show (s.ok = false ∨ s.num * dT l k x < nT l k x * s.den ∨ (s.num * dT l k x = nT l k x * s.den ∧ k = s.col ∧ x < s.cut)) → Best l (Pr l k (i + 1)) ⟨k, x, nT l k x, dT l k x, true⟩ ∧ ((⟨k, x, nT l k x, dT l k x, true⟩ : Cut).ok = false → (⟨k, x, nT l k x, dT l k x, true⟩ : Cut).col = 0 ∧ (⟨k, x, nT l k x, dT l k x, true⟩ : Cut).cut = 0) from fun hc => by
              have hst := HB.out.1.step (c := k) (x := x) (fun c' x' hp => cand_pos HOK.out hp.1) (cand_pos HOK.out HCD.out) (fun c' x' hp => by rcases hp.2 with h | ⟨h, _⟩ <;> omega)
              unfold rStep at hst
              rw [if_pos hc] at hst
              exact ⟨hst.congr (HMO.out HCD.out), fun h => (by cases h)⟩)
            have HKP := Lib.hid (show ¬ (s.ok = false ∨ s.num * dT l k x < nT l k x * s.den ∨ (s.num * dT l k x = nT l k x * s.den ∧ k = s.col ∧ x < s.cut)) → Best l (Pr l k (i + 1)) s from fun hc => by
              have hst := HB.out.1.step (c := k) (x := x) (fun c' x' hp => cand_pos HOK.out hp.1) (cand_pos HOK.out HCD.out) (fun c' x' hp => by rcases hp.2 with h | ⟨h, _⟩ <;> omega)
              unfold rStep at hst
              rw [if_neg hc] at hst
              exact hst.congr (HMO.out HCD.out))
            have HCM := Lib.hid (show s.ok = true → ((mn * ld < ln * md ↔ s.num * dT l k x < nT l k x * s.den) ∧ (mn * ld = ln * md ↔ s.num * dT l k x = nT l k x * s.den)) from fun hok => by
              have h1 := HN.out.yes hok
              rw [HMM.out.1, HMM.out.2, h1.1, h1.2]
              exact ⟨me_lt, me_eq⟩)
            clear p1 p2 hnb hbd HIN HSK HMO
            cases hok : s.ok with
            | false =>
              have HOF := Lib.hid hok
              rw [hok] at b2
              obtain ⟨hl0, hl1⟩ := HN.out.no hok
              have d1 : decide (mn * ld < ln * md) = false := decide_eq_false (by rw [hl0, hl1, Int.mul_zero, Int.zero_mul]; omega)
              have d2 : (mn * ld == ln * md) = true := beq_iff_eq.2 (by rw [hl0, hl1, Int.mul_zero, Int.zero_mul])
              clear hok hl0 hl1
              by_cases h4 : k = s.col
              · have d4 : ((k : Int) == (s.col : Int)) = true := beq_iff_eq.2 (by omega)
                have d4' : (k == s.col) = true := beq_iff_eq.2 h4
                clear h4
                by_cases h5 : x < s.cut
                · have d5 : decide (x < s.cut) = true := decide_eq_true h5
                  clear h5
                  have HBN := Lib.hid (HUP.out (.inl HOF.out))
                  clear HUP HKP HCM HN HB
                  go_wp2_with fail
                  go_region
                  all_goals
                    go_wp2_with fail
                    go_roundg (l.length - (i + 1))
                    case measure => omega
                    case rel => exact ⟨i + 1, ⟨k, x, nT l k x, dT l k x, true⟩, mn, md, by go_num, by omega, by omega, Lib.hid (HS7.out.upd k x mn md _ _), HCN, HBN⟩
                · have d5 : decide (x < s.cut) = false := decide_eq_false h5
                  clear h5
                  have HBN := Lib.hid (HUP.out (.inl HOF.out))
                  clear HUP HKP HCM HN HB
                  go_wp2_with fail
                  go_region
                  all_goals
                    go_wp2_with fail
                    go_roundg (l.length - (i + 1))
                    case measure => omega
                    case rel => exact ⟨i + 1, ⟨k, x, nT l k x, dT l k x, true⟩, mn, md, by go_num, by omega, by omega, Lib.hid (HS7.out.upd k x mn md _ _), HCN, HBN⟩
              · have d4 : ((k : Int) == (s.col : Int)) = false := beq_eq_false_iff_ne.2 (by omega)
                have d4' : (k == s.col) = false := beq_eq_false_iff_ne.2 h4
                clear h4
                have HBN := Lib.hid (HUP.out (.inl HOF.out))
                clear HUP HKP HCM HN HB
                go_wp2_with fail
                go_region
                all_goals
                  go_wp2_with fail
                  go_roundg (l.length - (i + 1))
                  case measure => omega
                  case rel => exact ⟨i + 1, ⟨k, x, nT l k x, dT l k x, true⟩, mn, md, by go_num, by omega, by omega, Lib.hid (HS7.out.upd k x mn md _ _), HCN, HBN⟩
            | true =>
              have HOF := Lib.hid hok
              rw [hok] at b2
              clear hok
              by_cases h1 : mn * ld < ln * md
              · have d1 : decide (mn * ld < ln * md) = true := decide_eq_true h1
                have d2 : (mn * ld == ln * md) = false := beq_eq_false_iff_ne.2 (by omega)
                have H1 := Lib.hid h1
                clear h1
                have HBN := Lib.hid (HUP.out (.inr (.inl ((HCM.out HOF.out).1.1 H1.out))))
                clear HUP HKP HCM HN HB
                go_wp2_with fail
                go_region
                all_goals
                  go_wp2_with fail
                  go_roundg (l.length - (i + 1))
                  case measure => omega
                  case rel => exact ⟨i + 1, ⟨k, x, nT l k x, dT l k x, true⟩, mn, md, by go_num, by omega, by omega, Lib.hid (HS7.out.upd k x mn md _ _), HCN, HBN⟩
              · have d1 : decide (mn * ld < ln * md) = false := decide_eq_false h1
                have H1 := Lib.hid h1
                clear h1
                by_cases h2 : mn * ld = ln * md
                · have d2 : (mn * ld == ln * md) = true := beq_iff_eq.2 h2
                  have H2 := Lib.hid h2
                  clear h2
                  by_cases h4 : k = s.col
                  · have d4 : ((k : Int) == (s.col : Int)) = true := beq_iff_eq.2 (by omega)
                    have d4' : (k == s.col) = true := beq_iff_eq.2 h4
                    have H4 := Lib.hid h4
                    clear h4
                    by_cases h5 : x < s.cut
                    · have d5 : decide (x < s.cut) = true := decide_eq_true h5
                      have H5 := Lib.hid h5
                      clear h5
                      have HBN := Lib.hid (HUP.out (.inr (.inr ⟨(HCM.out HOF.out).2.1 H2.out, H4.out, H5.out⟩)))
                      clear HUP HKP HCM HN HB
                      go_wp2_with fail
                      go_region
                      all_goals
                        go_wp2_with fail
                        go_roundg (l.length - (i + 1))
                        case measure => omega
                        case rel => exact ⟨i + 1, ⟨k, x, nT l k x, dT l k x, true⟩, mn, md, by go_num, by omega, by omega, Lib.hid (HS7.out.upd k x mn md _ _), HCN, HBN⟩
                    · have d5 : decide (x < s.cut) = false := decide_eq_false h5
                      have H5 := Lib.hid h5
                      clear h5
                      have HBN := Lib.hid (show Best l (Pr l k (i + 1)) s ∧ (s.ok = false → s.col = 0 ∧ s.cut = 0) from ⟨HKP.out (fun hc => hc.elim (fun h => Bool.noConfusion (HOF.out.symm.trans h)) (fun h => h.elim (fun h => H1.out ((HCM.out HOF.out).1.2 h)) (fun hc => H5.out hc.2.2))), HB.out.2⟩)
                      clear HUP HKP HCM HB
                      go_wp2_with fail
                      go_roundg (l.length - (i + 1))
                      case measure => omega
                      case rel => exact ⟨i + 1, s, ln, ld, by go_num, by omega, by omega, HS7, HN, HBN⟩
                  · have d4 : ((k : Int) == (s.col : Int)) = false := beq_eq_false_iff_ne.2 (by omega)
                    have d4' : (k == s.col) = false := beq_eq_false_iff_ne.2 h4
                    have H4 := Lib.hid h4
                    clear h4
                    have HBN := Lib.hid (show Best l (Pr l k (i + 1)) s ∧ (s.ok = false → s.col = 0 ∧ s.cut = 0) from ⟨HKP.out (fun hc => hc.elim (fun h => Bool.noConfusion (HOF.out.symm.trans h)) (fun h => h.elim (fun h => H1.out ((HCM.out HOF.out).1.2 h)) (fun hc => H4.out hc.2.1))), HB.out.2⟩)
                    clear HUP HKP HCM HB
                    go_wp2_with fail
                    go_roundg (l.length - (i + 1))
                    case measure => omega
                    case rel => exact ⟨i + 1, s, ln, ld, by go_num, by omega, by omega, HS7, HN, HBN⟩
                · have d2 : (mn * ld == ln * md) = false := beq_eq_false_iff_ne.2 h2
                  have H2 := Lib.hid h2
                  clear h2
                  have HBN := Lib.hid (show Best l (Pr l k (i + 1)) s ∧ (s.ok = false → s.col = 0 ∧ s.cut = 0) from ⟨HKP.out (fun hc => hc.elim (fun h => Bool.noConfusion (HOF.out.symm.trans h)) (fun h => h.elim (fun h => H1.out ((HCM.out HOF.out).1.2 h)) (fun hc => H2.out ((HCM.out HOF.out).2.2 hc.1)))), HB.out.2⟩)
                  clear HUP HKP HCM HB
                  go_wp2_with fail
                  go_roundg (l.length - (i + 1))
                  case measure => omega
                  case rel => exact ⟨i + 1, s, ln, ld, by go_num, by omega, by omega, HS7, HN, HBN⟩
        · obtain rfl : i = l.length := by omega
          have hgi : decide ((l.length : Int) < (l.length : Int)) = false := decide_eq_false (by omega)
          have HBN := Lib.hid (show Best l (Pr l (k + 1) 0) s ∧ (s.ok = false → s.col = 0 ∧ s.cut = 0) from ⟨HB.out.1.congr (Pr.col l k), HB.out.2⟩)
          clear HB
          go_wp2_with fail
          go_roundg (3 - (k + 1))
          case measure => omega
          case rel => exact ⟨k + 1, s, ln, ld, by go_num, by omega, by omega, HS, HN, HBN⟩
    · obtain rfl : k = 3 := by omega
      have hgd : decide ((3 : Int) < 3) = false := rfl
      have b0 := HS.out.be.cell 0
      have b1 := HS.out.be.cell 1
      have b2 := HS.out.be.cell 2
      have r0 := HS.out.re.cell 0
      have r1 := HS.out.re.cell 1
      have r2 := HS.out.re.cell 2
      have z0 := HS.out.re.frozen 0
      have z1 := HS.out.re.frozen 1
      have z2 := HS.out.re.frozen 2
      simp only [List.getElem?_toArray, List.getElem?_cons_zero, List.getElem?_cons_succ] at b0 b1 b2 r0 r1 r2
      go_wp2_with fail
      exact bodyPost_ret (results_cell_row rfl _ _ w.heap.size 126 #[.int .i64 (s.col : Nat), .int .i64 s.cut, .bool s.ok] (0, 0) _ rfl (((HS.out.re.set_ 0 _).set_ 1 _).set_ 2 _) Tryz.underlying126 rfl info_size_chosen) rfl
        ⟨s, rfl, HB.out.1, HB.out.2, ((HS.out.kp.setCell (p := ⟨w.heap.size, 0, none⟩) (.inr (Nat.le_refl _)) _).setCell (p := ⟨w.heap.size, 1, none⟩) (.inr (Nat.le_refl _)) _).setCell (p := ⟨w.heap.size, 2, none⟩) (.inr (Nat.le_refl _)) _⟩
end Go.Proofs.YtgabidgpngiecaaGreat
