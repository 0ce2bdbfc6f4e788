/- Contract of the laws' met. Conditions: the steps' lengths are allowed ones. -/
import Derived.Test.YtdmckjojeddaaaaP9
import Derived.Test.YtdmckjojeddaaaaU5
import Derived.Test.YtdmckjojeddaaaaR9
namespace Go.Proofs.Ytdmckjojeddaaaa
open Go.RowKit Go.Proofs.YtdmckjojeddaaaaKit Go.Proofs.YtdmckjojeddaaaaPlain

theorem quiet_drawn2 {P : Program} {f : FuncId} {args : Array Value} {w : World} {a : Nat} {v : Value} (h : Calls P f args (w.drewN a) fun e w' => e = .returned v ∧ Drawn (w.drewN a) w') :
    Calls P f args (w.drewN a) fun e w'' => e = .returned v ∧ ∃ m, w'' = w.drewN m :=
  h.mono fun _ _ ⟨he, q, hw⟩ => ⟨he, a + q, by rw [hw, World.drewN_drewN]⟩
def MetRel (W : World) (seed : Int) (key : List UInt8) (N : List NodeV) (l : List Side) (res : Bool) (v9 v10 : Value) (wr : World) : Prop :=
  ∃ (t : PT) (i j : Nat), j ≤ l.length ∧ v10 = .int .i64 j ∧ v9 = .int .i64 (t.at_ i) ∧ Hid (SubAt N seed i t) ∧ Hid (res = t.met seed key (l.drop j)) ∧ Hid (Keep No W wr)

set_option maxHeartbeats 4000000 in
set_option maxRecDepth 100000 in
theorem met_any {base : Nat} {w : World} {seed : Int} {t0 : PT} {N : List NodeV} {Np : Option Addr} {nn nc : Nat} {A : Option Addr} {n c : Nat} {key : List UInt8} {Sp : Option Addr} {m d : Nat} {l : List Side}
    (hN : NodesAt base w Np nn N) (hsub : SubAt N seed 0 t0) (h0 : (t0 = .nil ∧ nn = 0) ∨ (0 < nn ∧ t0.at_ 0 = 0)) (hk : Bytes base w A n key) (hl : Sides base w Sp m l) (hok : ∀ s ∈ l, keyOk s.key s.value) (hnm : ∀ x ∈ N, keyOk x.key x.value) (hn : n ≤ 1000000) (hm : m ≤ 1000000) (hnn : nn ≤ 1000000) :
    Calls Try.prog 32 #[.slice Np nn nc, .int .u64 seed, .slice A n c, .slice Sp m d] w fun e w' => e = .returned (.bool (t0.met seed key l)) ∧ Keep No w w' := by
  obtain rfl := hl.len (by omega)
  have HN := Lib.hid hN
  have hlen := hN.len (by omega)
  have HLEN := Lib.hid hlen
  have HS := Lib.hid (show _ ∧ _ ∧ _ ∧ _ ∧ _ from ⟨hsub, hk, hl, hok, hnm⟩)
  clear hN hk hl hok hnm hlen hsub
  obtain ⟨res, hres⟩ : ∃ res, res = t0.met seed key l := ⟨_, rfl⟩
  have HRES := Lib.hid hres
  rw [← hres]
  clear hres
  have hst : ∃ v9, v9 = Value.int .i64 (t0.at_ 0) := ⟨_, rfl⟩
  rcases h0 with ⟨rfl, hz⟩ | ⟨hpos, hat⟩
  case' inl =>
    have HAT := Lib.hid (show (PT.nil.at_ 0) = (-1 : Int) from rfl)
    have hq1 : decide (0 < nn) = false := decide_eq_false (by omega)
    have hq2 : decide ((0 : Int) < (nn : Nat)) = false := decide_eq_false (by omega)
    clear hst hz
    go_enter Try.func32, Try.ntmps32
    go_wp2_with fail
  case' inr =>
    have HAT := Lib.hid hat
    have hq1 : decide (0 < nn) = true := decide_eq_true hpos
    have hq2 : decide ((0 : Int) < (nn : Nat)) = true := decide_eq_true (by omega)
    clear hst hpos hat
    go_enter Try.func32, Try.ntmps32
    go_wp2_with fail
  all_goals
    go_loopw [9, 10] (MetRel w seed key N l res) (fun _ j _ => l.length - (intOf j).toNat)
    case atStart => exact ⟨_, 0, 0, Nat.zero_le _, rfl, by rw [HAT.out], Lib.hid HS.out.1, HRES, Lib.hid (Keep.refl _ _)⟩
    case round =>
      clear HAT HRES
      obtain ⟨t, i, j, hj, rfl, rfl, hs, hr, hkw⟩ := hrel
      by_cases hlt : j < l.length
      · cases t with
        | nil =>
          have e0 : PT.nil.at_ i = -1 := rfl
          have hr2 := Lib.hid (hr.out.trans (met_nil_at hlt))
          rw [e0]
          clear hr
          go_wp2
          go_ret
          exact ⟨ret_bool hr2.out.symm, hkw.out⟩
        | node k v a b =>
          have e0 : (PT.node k v a b).at_ i = (i : Int) := rfl
          rw [e0]
          clear e0
          have hx := hs.out.head
          have hsl := hs.out.left
          have hsr := hs.out.right
          have hxm := HS.out.2.2.2.2 _ (List.mem_of_getElem? hx)
          have hsm := HS.out.2.2.2.1 _ (List.getElem_mem hlt)
          have hst := hr.out.trans (met_at hlt)
          have hiN := (List.getElem?_eq_some_iff.1 hx).1
          have hNW := NodesAt.new_ HN.out hkw.out
          obtain ⟨ad, B1, d1, B2, d2, rfl, him, g0, g1, g2, g3, g4, g5, bk, bv⟩ := NodesAt.at_ (base := base) hNW hx
          obtain ⟨ad2, B3, d3, B4, d4, rfl, him2, s0, s1, s2, s3, bk2, bv2, _, _⟩ := (Sides.new_ HS.out.2.2.1 hkw.out).at_ hlt
          have hA : (a.at_ (i + 1) = -1 ∧ a.sum seed = 0) ∨ ∃ y, a.at_ (i + 1) = ((i + 1 : Nat) : Int) ∧ N[i + 1]? = some y ∧ y.digest = a.sum seed := by
            cases a with
            | nil => exact .inl ⟨rfl, rfl⟩
            | node k v c d => exact .inr ⟨_, rfl, hsl.head, rfl⟩
          have hB : (b.at_ (i + 1 + a.size) = -1 ∧ b.sum seed = 0) ∨ ∃ y, b.at_ (i + 1 + a.size) = ((i + 1 + a.size : Nat) : Int) ∧ N[i + 1 + a.size]? = some y ∧ y.digest = b.sum seed := by
            cases b with
            | nil => exact .inl ⟨rfl, rfl⟩
            | node k v c d => exact .inr ⟨_, rfl, hsr.head, rfl⟩
          have HSL := Lib.hid (show _ ∧ _ from ⟨hsl, hsr⟩)
          generalize l[j] = s at *
          have hk64 := hxm.2.1
          have hv1000 := hxm.2.2
          have hs64 := hsm.2.1
          have hs1000 := hsm.2.2
          have j0 : (0 : Int) ≤ (i : Nat) := by omega
          have j1 : ((i : Nat) : Int) < (nn : Nat) := by rw [← HLEN.out]; omega
          have j2 : (0 : Int) ≤ (j : Nat) := by omega
          have j3 : ((j : Nat) : Int) < (l.length : Nat) := by omega
          obtain ⟨wo, rfl⟩ : ∃ wo : World, wo = wr := ⟨_, rfl⟩
          have hab2 := him2.lt
          have HB := Lib.hid (show _ ∧ _ ∧ _ ∧ _ ∧ _ from ⟨bk, bv, bk2, bv2, hNW⟩)
          have HHA := Lib.hid (show _ ∧ _ from ⟨hA, hB⟩)
          have HST := Lib.hid hst
          clear hx hsl hsr hxm hsm hst hiN hNW him him2 bk bv bk2 bv2 hA hB hr hs
          generalize mark seed (a.sum seed) k v (b.sum seed) = dg at *
          generalize ((1 + a.size + b.size : Nat) : Int) = sz at *
          generalize hjj : i + 1 + a.size = jj at *
          generalize hii : i + 1 = ii at *
          generalize hlf0 : a.at_ ii = lf at *
          generalize hrt0 : b.at_ jj = rt at *
          have HL0 := Lib.hid (show _ ∧ _ from ⟨hlf0, hrt0⟩)
          clear hjj hii hlf0 hrt0
          generalize a.sum seed = sA at *
          generalize b.sum seed = sB at *
          have KX : Keep No wo (wo.alloc (.cells #[.slice B1 k.length d1, .slice B2 v.length d2, .int .u64 dg, .int .i64 sz, .int .i64 lf, .int .i64 rt] 44)) := (Keep.refl No wo).alloc _
          have XB : Blk (wo.alloc (.cells #[.slice B1 k.length d1, .slice B2 v.length d2, .int .u64 dg, .int .i64 sz, .int .i64 lf, .int .i64 rt] 44)) wo.heap.size 44 #[.slice B1 k.length d1, .slice B2 v.length d2, .int .u64 dg, .int .i64 sz, .int .i64 lf, .int .i64 rt] := Blk.new _ _ _
          go_wp2_with fail
          generalize wo.alloc (.cells #[.slice B1 k.length d1, .slice B2 v.length d2, .int .u64 dg, .int .i64 sz, .int .i64 lf, .int .i64 rt] 44) = W1 at *
          have hab3 : ad2.block < wo.heap.size := hab2
          generalize hxb : wo.heap.size = xb at *
          have HXB := Lib.hid hxb
          clear hxb
          have hab3 : ad2.block < wo.heap.size := by rw [HXB.out]; exact hab2
          have x0 := XB.cell 0
          have x1 := XB.cell 1
          have x4 := XB.cell 4
          have x5 := XB.cell 5
          simp only [List.getElem?_toArray, List.getElem?_cons_zero, List.getElem?_cons_succ] at x0 x1 x4 x5
          have t0' := (KX.cell (p := ad2.add (j * 4)) (by rw [block_of_add]; exact hab3) (fun x => x)).trans s0
          have t1' := (KX.cell (p := ⟨(ad2.add (j * 4)).block, (ad2.add (j * 4)).off + 1, none⟩) (by show (ad2.add (j * 4)).block < _; rw [block_of_add]; exact hab3) (fun x => x)).trans s1
          have t2' := (KX.cell (p := ⟨(ad2.add (j * 4)).block, (ad2.add (j * 4)).off + 2, none⟩) (by show (ad2.add (j * 4)).block < _; rw [block_of_add]; exact hab3) (fun x => x)).trans s2
          have t3' := (KX.cell (p := ⟨(ad2.add (j * 4)).block, (ad2.add (j * 4)).off + 3, none⟩) (by show (ad2.add (j * 4)).block < _; rw [block_of_add]; exact hab3) (fun x => x)).trans s3
          have hkwx := hkw.out.trans KX (fun _ x => x.elim)
          have HQ1 := Lib.hid (fun q => same_any B1 B3 _ d1 _ d3 k s.key (W1.drewN q) ((HB.out.1.new_ KX).drewN q) ((HB.out.2.2.1.new_ KX).drewN q) (by omega) (by omega))
          have HQ2 := Lib.hid (fun q => same_any B2 B4 _ d2 _ d4 v s.value (W1.drewN q) ((HB.out.2.1.new_ KX).drewN q) ((HB.out.2.2.2.1.new_ KX).drewN q) (by omega) (by omega))
          have HCM := Lib.hid (fun q => rcompare_any A B1 n c _ d1 key k (W1.drewN q) ((HS.out.2.1.new_ hkwx).drewN q) ((HB.out.1.new_ KX).drewN q) (by omega) (by omega))
          have HSM := Lib.hid (fun q => same_any A B1 n c _ d1 key k (W1.drewN q) ((HS.out.2.1.new_ hkwx).drewN q) ((HB.out.1.new_ KX).drewN q) (by omega) (by omega))
          have HP0 := Lib.hid (show _ ∧ _ from ⟨NodesAt.new_ HB.out.2.2.2.2 KX, hkwx⟩)
          clear XB KX s0 s1 s2 s3 g0 g1 g2 g3 g4 g5 HB hkw hkwx
          by_cases hkk : k = s.key
          · rw [decide_eq_true hkk] at HQ1
            by_cases hvv : v = s.value
            · rw [decide_eq_true hvv] at HQ2
              subst hkk hvv
              go_quiet ((first
                | (go_at_call_of 18 (Value.slice B1 s.key.length d1); exact quiet_drawn2 (HQ1.out _))
                | (go_at_call_of 18 (Value.slice B2 s.value.length d2); exact quiet_drawn2 (HQ2.out _))))
              have HP := Lib.hid (show _ ∧ _ ∧ _ from ⟨NodesAt.new_ HP0.out.1 ((Keep.refl No W1).drewN nq), HP0.out.2.drewN nq, HP0.out.2⟩)
              obtain ⟨hA, hB⟩ := HHA.out
              have HSS := Lib.hid (show s.key = s.key from rfl)
              clear HQ1 HQ2 HP0
              rcases hA with hA | hA
              · rcases hB with hB | hB
                · obtain ⟨hlf, hsA⟩ := hA
                  rw [hlf] at x4
                  rw [hsA] at HST
                  have HLF := Lib.hid hlf
                  have HSA := Lib.hid hsA
                  clear hlf hsA
                  obtain ⟨hrt, hsB⟩ := hB
                  rw [hrt] at x5
                  rw [hsB] at HST
                  have HRT := Lib.hid hrt
                  have HSB := Lib.hid hsB
                  clear hrt hsB
                  by_cases e1 : 0 = s.left
                  · have b1 : ((0 : Int) != s.left) = false := by simp [e1]
                    by_cases e2 : 0 = s.right
                    · have b2 : ((0 : Int) != s.right) = false := by simp [e2]
                      have HS2 := Lib.hid (HST.out.trans (if_pos ⟨rfl, rfl, e1, e2⟩))
                      clear e1 e2 HST
                      by_cases hkk : key = s.key
                      · have HR2 := Lib.hid (HS2.out.trans (if_pos hkk))
                        rw [rcmp_eq.2 hkk] at HCM
                        rw [decide_eq_true hkk] at HSM
                        clear hkk HS2
                        go_wp2_with (first
                          | (go_at_call 24; refine (HCM.out _).mono ?_; rintro e w5 ⟨rfl, q5, rfl⟩; (try rw [World.drewN_drewN]))
                          | (go_at_call 18; refine (HSM.out _).mono ?_; rintro e w5 ⟨rfl, q5, rfl⟩))
                        go_ret
                        exact ⟨ret_bool HR2.out.symm, HP.out.2.2.drewN _⟩
                      · rw [decide_eq_false hkk] at HSM
                        have hz : (rcmp key s.key == 0) = false := beq_eq_false_iff_ne.2 (fun e => hkk (rcmp_eq.1 e))
                        by_cases hlt2 : Lt key s.key
                        · have HR2 := Lib.hid (HS2.out.trans ((if_neg hkk).trans (by rw [if_pos hlt2])))
                          have hneg := rcmp_neg.2 hlt2
                          clear hkk HS2 hlt2
                          generalize rcmp key s.key = z at *
                          go_wp2_with (first
                            | (go_at_call 24; refine (HCM.out _).mono ?_; rintro e w5 ⟨rfl, q5, rfl⟩; (try rw [World.drewN_drewN]))
                            | (go_at_call 18; refine (HSM.out _).mono ?_; rintro e w5 ⟨rfl, q5, rfl⟩))
                          go_roundw
                          case rel => exact ⟨a, ii, j + 1, by omega, by go_num, by rw [HL0.out.1, HLF.out], Lib.hid HSL.out.1, HR2, Lib.hid (HP.out.2.2.drewN _)⟩
                          case measure => simp [intOf]; omega
                        · have HR2 := Lib.hid (HS2.out.trans ((if_neg hkk).trans (by rw [if_neg hlt2])))
                          have hneg := mt rcmp_neg.1 hlt2
                          clear hkk HS2 hlt2
                          generalize rcmp key s.key = z at *
                          go_wp2_with (first
                            | (go_at_call 24; refine (HCM.out _).mono ?_; rintro e w5 ⟨rfl, q5, rfl⟩; (try rw [World.drewN_drewN]))
                            | (go_at_call 18; refine (HSM.out _).mono ?_; rintro e w5 ⟨rfl, q5, rfl⟩))
                          go_roundw
                          case rel => exact ⟨b, jj, j + 1, by omega, by go_num, by rw [HL0.out.2, HRT.out], Lib.hid HSL.out.2, HR2, Lib.hid (HP.out.2.2.drewN _)⟩
                          case measure => simp [intOf]; omega
                    · have b2 : ((0 : Int) != s.right) = true := by simp [e2]
                      have HS2 := Lib.hid (HST.out.trans (if_neg (fun h => e2 h.2.2.2)))
                      clear e1 e2 HST
                      go_wp2
                      go_ret
                      exact ⟨ret_bool HS2.out.symm, HP.out.2.1⟩
                  · have b1 : ((0 : Int) != s.left) = true := by simp [e1]
                    have HS2 := Lib.hid (HST.out.trans (if_neg (fun h => e1 h.2.2.1)))
                    clear e1 HST
                    go_wp2
                    go_ret
                    exact ⟨ret_bool HS2.out.symm, HP.out.2.1⟩
                · obtain ⟨hlf, hsA⟩ := hA
                  rw [hlf] at x4
                  rw [hsA] at HST
                  have HLF := Lib.hid hlf
                  have HSA := Lib.hid hsA
                  clear hlf hsA
                  obtain ⟨y, hrt, hy, hyd⟩ := hB
                  have hyN := (List.getElem?_eq_some_iff.1 hy).1
                  obtain ⟨ad6, _, _, _, _, ead6, _, _, _, y3, _, _, _, _, _⟩ := NodesAt.at_ (base := base) HP.out.1 hy
                  injection ead6 with ead6
                  subst ead6
                  have k2 : (0 : Int) ≤ ((jj : Nat) : Int) := by omega
                  have k3 : ((jj : Nat) : Int) < (nn : Nat) := by rw [← HLEN.out]; omega
                  rw [hyd] at y3
                  rw [hrt] at x5
                  clear hy hyd hyN
                  have HRT := Lib.hid hrt
                  clear hrt
                  by_cases e1 : 0 = s.left
                  · have b1 : ((0 : Int) != s.left) = false := by simp [e1]
                    by_cases e2 : sB = s.right
                    · have b2 : ((sB : Int) != s.right) = false := by simp [e2]
                      have HS2 := Lib.hid (HST.out.trans (if_pos ⟨rfl, rfl, e1, e2⟩))
                      clear e1 e2 HST
                      by_cases hkk : key = s.key
                      · have HR2 := Lib.hid (HS2.out.trans (if_pos hkk))
                        rw [rcmp_eq.2 hkk] at HCM
                        rw [decide_eq_true hkk] at HSM
                        clear hkk HS2
                        go_wp2_with (first
                          | (go_at_call 24; refine (HCM.out _).mono ?_; rintro e w5 ⟨rfl, q5, rfl⟩; (try rw [World.drewN_drewN]))
                          | (go_at_call 18; refine (HSM.out _).mono ?_; rintro e w5 ⟨rfl, q5, rfl⟩))
                        go_ret
                        exact ⟨ret_bool HR2.out.symm, HP.out.2.2.drewN _⟩
                      · rw [decide_eq_false hkk] at HSM
                        have hz : (rcmp key s.key == 0) = false := beq_eq_false_iff_ne.2 (fun e => hkk (rcmp_eq.1 e))
                        by_cases hlt2 : Lt key s.key
                        · have HR2 := Lib.hid (HS2.out.trans ((if_neg hkk).trans (by rw [if_pos hlt2])))
                          have hneg := rcmp_neg.2 hlt2
                          clear hkk HS2 hlt2
                          generalize rcmp key s.key = z at *
                          go_wp2_with (first
                            | (go_at_call 24; refine (HCM.out _).mono ?_; rintro e w5 ⟨rfl, q5, rfl⟩; (try rw [World.drewN_drewN]))
                            | (go_at_call 18; refine (HSM.out _).mono ?_; rintro e w5 ⟨rfl, q5, rfl⟩))
                          go_roundw
                          case rel => exact ⟨a, ii, j + 1, by omega, by go_num, by rw [HL0.out.1, HLF.out], Lib.hid HSL.out.1, HR2, Lib.hid (HP.out.2.2.drewN _)⟩
                          case measure => simp [intOf]; omega
                        · have HR2 := Lib.hid (HS2.out.trans ((if_neg hkk).trans (by rw [if_neg hlt2])))
                          have hneg := mt rcmp_neg.1 hlt2
                          clear hkk HS2 hlt2
                          generalize rcmp key s.key = z at *
                          go_wp2_with (first
                            | (go_at_call 24; refine (HCM.out _).mono ?_; rintro e w5 ⟨rfl, q5, rfl⟩; (try rw [World.drewN_drewN]))
                            | (go_at_call 18; refine (HSM.out _).mono ?_; rintro e w5 ⟨rfl, q5, rfl⟩))
                          go_roundw
                          case rel => exact ⟨b, jj, j + 1, by omega, by go_num, by rw [HL0.out.2, HRT.out], Lib.hid HSL.out.2, HR2, Lib.hid (HP.out.2.2.drewN _)⟩
                          case measure => simp [intOf]; omega
                    · have b2 : ((sB : Int) != s.right) = true := by simp [e2]
                      have HS2 := Lib.hid (HST.out.trans (if_neg (fun h => e2 h.2.2.2)))
                      clear e1 e2 HST
                      go_wp2
                      go_ret
                      exact ⟨ret_bool HS2.out.symm, HP.out.2.1⟩
                  · have b1 : ((0 : Int) != s.left) = true := by simp [e1]
                    have HS2 := Lib.hid (HST.out.trans (if_neg (fun h => e1 h.2.2.1)))
                    clear e1 HST
                    go_wp2
                    go_ret
                    exact ⟨ret_bool HS2.out.symm, HP.out.2.1⟩
              · rcases hB with hB | hB
                · obtain ⟨y, hlf, hy, hyd⟩ := hA
                  have hyN := (List.getElem?_eq_some_iff.1 hy).1
                  obtain ⟨ad5, _, _, _, _, ead5, _, _, _, y2, _, _, _, _, _⟩ := NodesAt.at_ (base := base) HP.out.1 hy
                  injection ead5 with ead5
                  subst ead5
                  have k0 : (0 : Int) ≤ ((ii : Nat) : Int) := by omega
                  have k1 : ((ii : Nat) : Int) < (nn : Nat) := by rw [← HLEN.out]; omega
                  rw [hyd] at y2
                  rw [hlf] at x4
                  clear hy hyd hyN
                  have HLF := Lib.hid hlf
                  clear hlf
                  obtain ⟨hrt, hsB⟩ := hB
                  rw [hrt] at x5
                  rw [hsB] at HST
                  have HRT := Lib.hid hrt
                  have HSB := Lib.hid hsB
                  clear hrt hsB
                  by_cases e1 : sA = s.left
                  · have b1 : ((sA : Int) != s.left) = false := by simp [e1]
                    by_cases e2 : 0 = s.right
                    · have b2 : ((0 : Int) != s.right) = false := by simp [e2]
                      have HS2 := Lib.hid (HST.out.trans (if_pos ⟨rfl, rfl, e1, e2⟩))
                      clear e1 e2 HST
                      by_cases hkk : key = s.key
                      · have HR2 := Lib.hid (HS2.out.trans (if_pos hkk))
                        rw [rcmp_eq.2 hkk] at HCM
                        rw [decide_eq_true hkk] at HSM
                        clear hkk HS2
                        go_wp2_with (first
                          | (go_at_call 24; refine (HCM.out _).mono ?_; rintro e w5 ⟨rfl, q5, rfl⟩; (try rw [World.drewN_drewN]))
                          | (go_at_call 18; refine (HSM.out _).mono ?_; rintro e w5 ⟨rfl, q5, rfl⟩))
                        go_ret
                        exact ⟨ret_bool HR2.out.symm, HP.out.2.2.drewN _⟩
                      · rw [decide_eq_false hkk] at HSM
                        have hz : (rcmp key s.key == 0) = false := beq_eq_false_iff_ne.2 (fun e => hkk (rcmp_eq.1 e))
                        by_cases hlt2 : Lt key s.key
                        · have HR2 := Lib.hid (HS2.out.trans ((if_neg hkk).trans (by rw [if_pos hlt2])))
                          have hneg := rcmp_neg.2 hlt2
                          clear hkk HS2 hlt2
                          generalize rcmp key s.key = z at *
                          go_wp2_with (first
                            | (go_at_call 24; refine (HCM.out _).mono ?_; rintro e w5 ⟨rfl, q5, rfl⟩; (try rw [World.drewN_drewN]))
                            | (go_at_call 18; refine (HSM.out _).mono ?_; rintro e w5 ⟨rfl, q5, rfl⟩))
                          go_roundw
                          case rel => exact ⟨a, ii, j + 1, by omega, by go_num, by rw [HL0.out.1, HLF.out], Lib.hid HSL.out.1, HR2, Lib.hid (HP.out.2.2.drewN _)⟩
                          case measure => simp [intOf]; omega
                        · have HR2 := Lib.hid (HS2.out.trans ((if_neg hkk).trans (by rw [if_neg hlt2])))
                          have hneg := mt rcmp_neg.1 hlt2
                          clear hkk HS2 hlt2
                          generalize rcmp key s.key = z at *
                          go_wp2_with (first
                            | (go_at_call 24; refine (HCM.out _).mono ?_; rintro e w5 ⟨rfl, q5, rfl⟩; (try rw [World.drewN_drewN]))
                            | (go_at_call 18; refine (HSM.out _).mono ?_; rintro e w5 ⟨rfl, q5, rfl⟩))
                          go_roundw
                          case rel => exact ⟨b, jj, j + 1, by omega, by go_num, by rw [HL0.out.2, HRT.out], Lib.hid HSL.out.2, HR2, Lib.hid (HP.out.2.2.drewN _)⟩
                          case measure => simp [intOf]; omega
                    · have b2 : ((0 : Int) != s.right) = true := by simp [e2]
                      have HS2 := Lib.hid (HST.out.trans (if_neg (fun h => e2 h.2.2.2)))
                      clear e1 e2 HST
                      go_wp2
                      go_ret
                      exact ⟨ret_bool HS2.out.symm, HP.out.2.1⟩
                  · have b1 : ((sA : Int) != s.left) = true := by simp [e1]
                    have HS2 := Lib.hid (HST.out.trans (if_neg (fun h => e1 h.2.2.1)))
                    clear e1 HST
                    go_wp2
                    go_ret
                    exact ⟨ret_bool HS2.out.symm, HP.out.2.1⟩
                · obtain ⟨y, hlf, hy, hyd⟩ := hA
                  have hyN := (List.getElem?_eq_some_iff.1 hy).1
                  obtain ⟨ad5, _, _, _, _, ead5, _, _, _, y2, _, _, _, _, _⟩ := NodesAt.at_ (base := base) HP.out.1 hy
                  injection ead5 with ead5
                  subst ead5
                  have k0 : (0 : Int) ≤ ((ii : Nat) : Int) := by omega
                  have k1 : ((ii : Nat) : Int) < (nn : Nat) := by rw [← HLEN.out]; omega
                  rw [hyd] at y2
                  rw [hlf] at x4
                  clear hy hyd hyN
                  have HLF := Lib.hid hlf
                  clear hlf
                  obtain ⟨y, hrt, hy, hyd⟩ := hB
                  have hyN := (List.getElem?_eq_some_iff.1 hy).1
                  obtain ⟨ad6, _, _, _, _, ead6, _, _, _, y3, _, _, _, _, _⟩ := NodesAt.at_ (base := base) HP.out.1 hy
                  injection ead6 with ead6
                  subst ead6
                  have k2 : (0 : Int) ≤ ((jj : Nat) : Int) := by omega
                  have k3 : ((jj : Nat) : Int) < (nn : Nat) := by rw [← HLEN.out]; omega
                  rw [hyd] at y3
                  rw [hrt] at x5
                  clear hy hyd hyN
                  have HRT := Lib.hid hrt
                  clear hrt
                  by_cases e1 : sA = s.left
                  · have b1 : ((sA : Int) != s.left) = false := by simp [e1]
                    by_cases e2 : sB = s.right
                    · have b2 : ((sB : Int) != s.right) = false := by simp [e2]
                      have HS2 := Lib.hid (HST.out.trans (if_pos ⟨rfl, rfl, e1, e2⟩))
                      clear e1 e2 HST
                      by_cases hkk : key = s.key
                      · have HR2 := Lib.hid (HS2.out.trans (if_pos hkk))
                        rw [rcmp_eq.2 hkk] at HCM
                        rw [decide_eq_true hkk] at HSM
                        clear hkk HS2
                        go_wp2_with (first
                          | (go_at_call 24; refine (HCM.out _).mono ?_; rintro e w5 ⟨rfl, q5, rfl⟩; (try rw [World.drewN_drewN]))
                          | (go_at_call 18; refine (HSM.out _).mono ?_; rintro e w5 ⟨rfl, q5, rfl⟩))
                        go_ret
                        exact ⟨ret_bool HR2.out.symm, HP.out.2.2.drewN _⟩
                      · rw [decide_eq_false hkk] at HSM
                        have hz : (rcmp key s.key == 0) = false := beq_eq_false_iff_ne.2 (fun e => hkk (rcmp_eq.1 e))
                        by_cases hlt2 : Lt key s.key
                        · have HR2 := Lib.hid (HS2.out.trans ((if_neg hkk).trans (by rw [if_pos hlt2])))
                          have hneg := rcmp_neg.2 hlt2
                          clear hkk HS2 hlt2
                          generalize rcmp key s.key = z at *
                          go_wp2_with (first
                            | (go_at_call 24; refine (HCM.out _).mono ?_; rintro e w5 ⟨rfl, q5, rfl⟩; (try rw [World.drewN_drewN]))
                            | (go_at_call 18; refine (HSM.out _).mono ?_; rintro e w5 ⟨rfl, q5, rfl⟩))
                          go_roundw
                          case rel => exact ⟨a, ii, j + 1, by omega, by go_num, by rw [HL0.out.1, HLF.out], Lib.hid HSL.out.1, HR2, Lib.hid (HP.out.2.2.drewN _)⟩
                          case measure => simp [intOf]; omega
                        · have HR2 := Lib.hid (HS2.out.trans ((if_neg hkk).trans (by rw [if_neg hlt2])))
                          have hneg := mt rcmp_neg.1 hlt2
                          clear hkk HS2 hlt2
                          generalize rcmp key s.key = z at *
                          go_wp2_with (first
                            | (go_at_call 24; refine (HCM.out _).mono ?_; rintro e w5 ⟨rfl, q5, rfl⟩; (try rw [World.drewN_drewN]))
                            | (go_at_call 18; refine (HSM.out _).mono ?_; rintro e w5 ⟨rfl, q5, rfl⟩))
                          go_roundw
                          case rel => exact ⟨b, jj, j + 1, by omega, by go_num, by rw [HL0.out.2, HRT.out], Lib.hid HSL.out.2, HR2, Lib.hid (HP.out.2.2.drewN _)⟩
                          case measure => simp [intOf]; omega
                    · have b2 : ((sB : Int) != s.right) = true := by simp [e2]
                      have HS2 := Lib.hid (HST.out.trans (if_neg (fun h => e2 h.2.2.2)))
                      clear e1 e2 HST
                      go_wp2
                      go_ret
                      exact ⟨ret_bool HS2.out.symm, HP.out.2.1⟩
                  · have b1 : ((sA : Int) != s.left) = true := by simp [e1]
                    have HS2 := Lib.hid (HST.out.trans (if_neg (fun h => e1 h.2.2.1)))
                    clear e1 HST
                    go_wp2
                    go_ret
                    exact ⟨ret_bool HS2.out.symm, HP.out.2.1⟩
            · rw [decide_eq_false hvv] at HQ2
              have HR2 := Lib.hid (HST.out.trans (if_neg (fun h => hvv h.2.1)))
              clear hkk hvv HST
              go_quiet ((first
                | (go_at_call_of 18 (Value.slice B1 k.length d1); exact quiet_drawn2 (HQ1.out _))
                | (go_at_call_of 18 (Value.slice B2 v.length d2); exact quiet_drawn2 (HQ2.out _))))
              go_wp2
              go_ret
              exact ⟨ret_bool HR2.out.symm, HP0.out.2.drewN _⟩
          · rw [decide_eq_false hkk] at HQ1
            have HR2 := Lib.hid (HST.out.trans (if_neg (fun h => hkk h.1)))
            clear hkk HST
            go_quiet ((go_at_call 18; exact quiet_drawn2 (HQ1.out _)))
            go_wp2
            go_ret
            exact ⟨ret_bool HR2.out.symm, HP0.out.2.drewN _⟩
      · have hjl : j = l.length := by omega
        subst hjl
        have hr2 := hr.out
        rw [List.drop_length] at hr2
        cases t with
        | nil =>
          have e0 : PT.nil.at_ i = -1 := rfl
          have HR2 := Lib.hid (hr2.trans (show _ = false from rfl))
          rw [e0]
          clear hr hr2
          go_wp2
          go_ret
          exact ⟨ret_bool HR2.out.symm, hkw.out⟩
        | node k v a b =>
          have e0 : (PT.node k v a b).at_ i = (i : Int) := rfl
          have HR2 := Lib.hid (hr2.trans (show _ = true from rfl))
          have j0 : (0 : Int) ≤ (i : Nat) := by omega
          rw [e0]
          clear hr hr2
          go_wp2
          go_ret
          exact ⟨ret_bool HR2.out.symm, hkw.out⟩
end Go.Proofs.Ytdmckjojeddaaaa
