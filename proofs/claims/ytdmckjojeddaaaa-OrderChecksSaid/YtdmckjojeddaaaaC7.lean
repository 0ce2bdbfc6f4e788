/- Contract of the reference's Check: the same as that of order.Check. Conditions: the lengths are those that statements hand in. -/
import Derived.Test.YtdmckjojeddaaaaC6
namespace Go.Proofs.Ytdmckjojeddaaaa
open Go.RowKit Go.Proofs.YtdmckjojeddaaaaKit Go.Proofs.YtdmckjojeddaaaaPlain

set_option maxHeartbeats 1000000 in
set_option maxRecDepth 100000 in
theorem rtoward_any {b1 b2 : Nat} (A B C : Option Addr) (n c m d c2 n2 : Nat) (key skey : List UInt8) (left right : Int) (w : World) (hk : Bytes b1 w A n key) (hv : Bytes b2 w B m skey)
    (hn : n ≤ 10000) (hm : m ≤ 10000) :
    Calls Try.prog 63 #[.agg #[.slice B m d, .slice C n2 c2, .int .u64 left, .int .u64 right], .slice A n c] w fun e w' => e = .returned (.int .u64 (if Lt key skey then left else right)) ∧ Keep No w w' := by
  have hb := hv.alloc (.cells #[.slice B m d, .slice C n2 c2, .int .u64 left, .int .u64 right] 29)
  have ha := hk.alloc (.cells #[.slice B m d, .slice C n2 c2, .int .u64 left, .int .u64 right] 29)
  have H := Lib.hid (rcompare_any A B _ c _ d key skey _ ha hb (by omega) (by omega))
  have K := Lib.hid (((Keep.refl No w).alloc (.cells #[.slice B m d, .slice C n2 c2, .int .u64 left, .int .u64 right] 29)))
  clear ha hb hk hv
  by_cases h : Lt key skey
  · have h0 := rcmp_neg.2 h
    go_enter Try.func63, Try.ntmps63
    go_wp2_with fail
    refine H.out.mono ?_
    rintro e w1 ⟨rfl, q, rfl⟩
    go_wp2
    go_ret
    exact ⟨ret_u64 (by simp), K.out.drewN q⟩
  · have h0 := mt rcmp_neg.1 h
    go_enter Try.func63, Try.ntmps63
    go_wp2_with fail
    refine H.out.mono ?_
    rintro e w1 ⟨rfl, q, rfl⟩
    go_wp2
    go_ret
    exact ⟨ret_u64 (by simp), K.out.drewN q⟩

set_option maxHeartbeats 2000000 in
set_option maxRecDepth 100000 in
theorem rcheck_any {base : Nat} (seed digest : Int) (A L : Option Addr) (n c m d : Nat) (key : List UInt8) (l : List Side) (w : World) (hk : Bytes base w A n key) (hl : Sides base w L m l)
    (hn : n ≤ 10000) (hm : m ≤ 100000) (hv : ∀ s ∈ l, s.key.length ≤ 10000 ∧ s.value.length ≤ 10000) :
    Calls Try.prog 17 #[.int .u64 seed, .int .u64 digest, .slice A n c, .slice L m d] w (Checked base w (chk seed key digest l)) := by
  obtain rfl := hk.len
  obtain rfl := hl.len (by omega)
  have HK := Lib.hid hk
  have HL := Lib.hid hl
  clear hk hl
  go_enter Try.func17, Try.ntmps17
  go_wp2
  go_loopw [11, 12] (fun v1 v19 wr => ∃ (k : Nat) (g : Int), k ≤ l.length ∧ v19 = .int .i64 k ∧ v1 = .int .u64 g ∧ Hid (chk seed key digest l = chk seed key g (l.drop k)) ∧ Keep No w wr) (fun _ i _ => l.length - (intOf i).toNat)
  case atStart => exact ⟨0, digest, Nat.zero_le _, rfl, rfl, rfl, Keep.refl _ _⟩
  case round =>
    obtain ⟨k, g, hk, rfl, rfl, hI, hw⟩ := hrel
    by_cases hlt : k < l.length
    · obtain ⟨ad, A1, c1, A2, c2, rfl, him, e0, e1, e2, e3, b1, b2, p1, p2⟩ := ((HL.out).new_ hw).at_ hlt
      have hvk := hv l[k] (List.getElem_mem hlt)
      have hst := Lib.hid (hI.out.trans (chk_at seed key g l k hlt))
      generalize l[k] = s at *
      have hv1 := hvk.1
      have hv2 := hvk.2
      clear hvk hv
      have B0 := Blk.new wr 29 #[.slice A1 s.key.length c1, .slice A2 s.value.length c2, .int .u64 s.left, .int .u64 s.right]
      have hw0 := hw.alloc (.cells #[.slice A1 s.key.length c1, .slice A2 s.value.length c2, .int .u64 s.left, .int .u64 s.right] 29)
      have b1' := b1.alloc (.cells #[.slice A1 s.key.length c1, .slice A2 s.value.length c2, .int .u64 s.left, .int .u64 s.right] 29)
      have b2' := b2.alloc (.cells #[.slice A1 s.key.length c1, .slice A2 s.value.length c2, .int .u64 s.left, .int .u64 s.right] 29)
      clear b1 b2 him
      go_wp2_with fail
      have hal0 := rallowed_any A1 A2 _ c1 _ c2 s.key s.value _ b1' b2'
      by_cases hal : allowedB s.key s.value = true
      · rw [hal] at hal0
        have hal2 := Lib.hid hal
        clear hal
        refine hal0.mono ?_
        rintro e w2 ⟨rfl, rfl⟩
        clear hal0
        go_wp2_with fail
        clear e0 e1 e2 e3
        refine (rmark_any seed s.left s.right A1 A2 _ c1 _ c2 s.key s.value _ b1' b2' (by omega) (by omega) p1 p2).mono ?_
        rintro e w2 ⟨rfl, hk2⟩
        have B1 := B0.keep hk2 (fun x => x)
        have hw1 := hw0.trans hk2 (fun _ x => x.elim)
        have b1 := b1'.new_ hk2
        have b2 := b2'.new_ hk2
        have f0 := B1.cell 0
        have f1 := B1.cell 1
        have f2 := B1.cell 2
        have f3 := B1.cell 3
        simp only [List.getElem?_toArray, List.getElem?_cons_zero, List.getElem?_cons_succ] at f0 f1 f2 f3
        generalize wr.heap.size = nb at *
        clear b1' b2' B0 hw0 hk2 B1
        by_cases q4 : mark seed s.left s.key s.value s.right = g
        · have hg : (mark seed s.left s.key s.value s.right != g) = false := by simp [q4]
          have hst2 := Lib.hid (hst.out.trans (if_neg (by rw [hal2.out, q4]; simp)))
          clear hst
          clear q4
          go_wp2_with fail
          have hcb := rcompare_any A A1 _ c _ c1 key s.key _ (HK.out.new_ hw1) b1 (by omega) (by omega)
          by_cases ho : key = s.key
          · rw [rcmp_eq.2 ho] at hcb
            by_cases q5 : k + 1 = l.length
            · have hst3 := Lib.hid (hst2.out.trans ((if_pos ho).trans (if_pos q5)))
              clear hst2
              have q6 : decide ((k : Int) < (l.length : Int) - 1) = false := by simp; omega
              clear ho q5
              refine hcb.mono ?_
              rintro e w3 ⟨rfl, q, rfl⟩
              clear hcb
              go_wp2
              go_ret3
              exact Checked.yes hst3.out (hw1.drewN q) (b2.drewN q)
            · have hst3 := Lib.hid (hst2.out.trans ((if_pos ho).trans (if_neg q5)))
              clear hst2
              have q6 : decide ((k : Int) < (l.length : Int) - 1) = true := by simp; omega
              clear ho q5
              refine hcb.mono ?_
              rintro e w3 ⟨rfl, q, rfl⟩
              clear hcb
              go_wp2
              go_ret3
              exact Checked.bad hst3.out (hw1.drewN q)
          · have hst3 := Lib.hid (hst2.out.trans (if_neg ho))
            clear hst2
            have q6 : (rcmp key s.key == 0) = false := by simp [rcmp_eq, ho]
            clear ho
            refine hcb.mono ?_
            rintro e w3 ⟨rfl, q, rfl⟩
            clear hcb
            go_wp2_with fail
            refine (rtoward_any A A1 A2 _ c _ c1 c2 _ key s.key s.left s.right _ (HK.out.new_ (hw1.drewN q)) (b1.drewN q) (by omega) (by omega)).mono ?_
            rintro e w4 ⟨rfl, hk4⟩
            have hw2 := (hw1.drewN q).trans hk4 (fun _ x => x.elim)
            have hi : (if Lt key s.key then s.left else s.right) = (if Lt key s.key then s.left else s.right) := rfl
            generalize (if Lt key s.key then s.left else s.right) = g2 at *
            clear hi
            go_wp2
            go_roundw
            case rel => exact ⟨k + 1, g2, by omega, by go_num, rfl, hst3, hw2⟩
            case measure => simp [intOf]; omega
        · have hg : (mark seed s.left s.key s.value s.right != g) = true := by simp [q4]
          have hst2 := Lib.hid (hst.out.trans (if_pos (.inr q4)))
          clear hst q4
          go_wp2
          go_ret3
          exact Checked.bad hst2.out hw1
      · have hal1 : allowedB s.key s.value = false := by simpa using hal
        rw [hal1] at hal0
        have hst2 := Lib.hid (hst.out.trans (if_pos (.inl hal1)))
        clear hal1 hal
        refine hal0.mono ?_
        rintro e w2 ⟨rfl, rfl⟩
        clear hal0
        go_wp2
        go_ret3
        exact Checked.bad hst2.out hw0
    · have hkl : k = l.length := by omega
      have hst := Lib.hid (hI.out.trans (show _ = (if g = 0 then some none else none) by rw [List.drop_of_length_le (by omega)]; exact chk_nil seed key g))
      subst hkl
      by_cases q : g = 0
      · have hg : (g != 0) = false := by simp [q]
        have hst2 := Lib.hid (hst.out.trans (if_pos q))
        clear hst q
        go_wp2
        go_ret3
        exact Checked.no hst2.out hw
      · have hg : (g != 0) = true := by simp [q]
        have hst2 := Lib.hid (hst.out.trans (if_neg q))
        clear hst q
        go_wp2
        go_ret3
        exact Checked.bad hst2.out hw

end Go.Proofs.Ytdmckjojeddaaaa
