/- OrderTrue: the walk. Conditions: none but that the arguments are read. -/
import Derived.Test.YtdmckjojeddaaaaU7
import Derived.Test.YtdmckjojeddaaaaC8
import Derived.Test.YtdmckjojeddaaaaL1
namespace Go.Proofs.Ytdmckjojeddaaaa
open Go.RowKit Go.Proofs.YtdmckjojeddaaaaKit Go.Proofs.YtdmckjojeddaaaaPlain

theorem MSt.metTrue {base : Nat} {w : World} {mb : Nat} {seed : Int} {l : PairL} {F : List Nat} (h : MSt base w mb seed l F) {key : List UInt8} {steps : List Side} {o : Option (List UInt8)} (hc : chk seed key (digest seed l) steps = some o) : o = getL l key ∨ metL seed l key steps = true := by
  obtain ⟨t, _, hwf, rfl, _⟩ := h
  exact metL_true hwf hc
theorem chk_okay {seed : Int} {key : List UInt8} {d : Int} {l : List Side} {o : Option (List UInt8)} (h : chk seed key d l = some o) : ∀ s ∈ l, keyOk s.key s.value := fun s hs => allowedB_iff.1 (chk_allowed h s hs)
theorem chk_val {seed : Int} {key : List UInt8} {d : Int} {l : List Side} {v : List UInt8} (h : chk seed key d l = some (some v)) : v.length ≤ 1000 := by
  have hok := chk_okay h
  induction l generalizing d with
  | nil => rw [chk] at h; split at h <;> cases h
  | cons s r ih =>
    rw [chk] at h
    split at h
    · cases h
    · split at h
      · split at h
        · injection h with h; injection h with h; subst h; exact (hok s List.mem_cons_self).2.2
        · cases h
      · exact ih h (fun x hx => hok x (List.mem_cons_of_mem _ hx))

set_option maxHeartbeats 4000000 in
set_option maxRecDepth 100000 in
theorem orderTrue_walk {base : Nat} (seed : Int) (Lp : Option Addr) (m d : Nat) (l : PairL) (A : Option Addr) (n c : Nat) (key : List UInt8) (Sp : Option Addr) (sm sd : Nat) (st : List Side) (w : World) (hl : Pairs base w Lp m l) (hk : Bytes base w A n key) (hs : Sides base w Sp sm st) (hb : base ≤ w.heap.size) :
    Calls Try.prog 6 #[.agg #[.int .u64 seed, .slice Lp m d, .slice A n c, .slice Sp sm sd]] w fun e w' => e = .returned (.bool true) ∧ Keep No w w' := by
  have hnk := hk.len
  have hsm := hs.len (by omega)
  have HB := Lib.hid (Blk.new w 59 #[.int .u64 seed, .slice Lp m d, .slice A n c, .slice Sp sm sd])
  have f0 := HB.out.cell 0
  have f1 := HB.out.cell 1
  have f2 := HB.out.cell 2
  have f3 := HB.out.cell 3
  simp only [List.getElem?_toArray, List.getElem?_cons_zero, List.getElem?_cons_succ] at f0 f1 f2 f3
  have HW := Lib.hid ((Keep.refl No w).alloc (.cells #[.int .u64 seed, .slice Lp m d, .slice A n c, .slice Sp sm sd] 59))
  have HL := Lib.hid hl
  have HK := Lib.hid hk
  have HS := Lib.hid hs
  have HNK := Lib.hid (show _ ∧ _ from ⟨hnk, hsm⟩)
  clear hl hk hs hnk hsm
  go_enter Try.func6, Try.ntmps6
  go_wp2_with fail
  go_quiet (fail)
  obtain ⟨w0, hW0⟩ : ∃ x, x = World.drewN (w.alloc (.cells #[.int .u64 seed, .slice Lp m d, .slice A n c, .slice Sp sm sd] 59)) nq := ⟨_, rfl⟩
  rw [← hW0]
  have K0 := Lib.hid (show Keep No w w0 from hW0 ▸ HW.out.drewN nq)
  have hb0 : base ≤ w0.heap.size := Nat.le_trans hb K0.out.size
  have L0 := Lib.hid (HL.out.new_ K0.out)
  have Y0 := Lib.hid (HK.out.new_ K0.out)
  have S0 := Lib.hid (Sides.new_ HS.out K0.out)
  clear HW HK HL HS hW0 HB f0 f1 f2 f3
  have H0 := Lib.hid (rising_any Lp m d l w0 L0.out hb0)
  cases hr : risingL l with
  | none =>
    rw [hr] at H0
    clear hr
    go_wp2_with fail
    refine H0.out.mono ?_
    rintro e w1 ⟨rfl, hk⟩
    have HK := Lib.hid (K0.out.trans hk (fun _ x => x.elim))
    clear hk
    go_wp2
    go_ret
    exact ⟨rfl, HK.out⟩
  | some out =>
    rw [hr] at H0
    obtain ⟨hl4, hout, hok⟩ := risingL_some hr
    have HR := Lib.hid (show _ ∧ _ from ⟨hout, hok⟩)
    have hl5 : out.length ≤ l.length := by have := putAll_length [] l; rw [← hout] at this; simpa using this
    clear hr hout hok
    go_wp2_with fail
    refine H0.out.mono ?_
    rintro e w1 ⟨A1, c1, rfl, hc1, ho1, hok1, hl1⟩
    have H1 := Lib.hid (show _ ∧ _ ∧ _ ∧ _ from ⟨ho1.keepTo, hok1, OwnP.pairs ho1, hc1⟩)
    clear ho1 hok1 hc1 H0
    have HLG := Lib.hid (long_any A n c w1)
    by_cases hlong : 2000 < n
    · rw [decide_eq_true hlong] at HLG
      go_wp2_with (go_at_call 15; refine HLG.out.mono ?_; rintro e w' ⟨rfl, rfl⟩)
      go_ret
      exact ⟨rfl, K0.out.trans H1.out.1 (fun _ x => x.elim)⟩
    rw [decide_eq_false hlong] at HLG
    by_cases hmany : 400 < sm
    · have q : decide ((400 : Int) < (sm : Nat)) = true := decide_eq_true (by omega)
      go_wp2_with (go_at_call 15; refine HLG.out.mono ?_; rintro e w' ⟨rfl, rfl⟩)
      go_ret
      exact ⟨rfl, K0.out.trans H1.out.1 (fun _ x => x.elim)⟩
    have q : decide ((400 : Int) < (sm : Nat)) = false := decide_eq_false (by omega)
    go_wp2_with (go_at_call 15; refine HLG.out.mono ?_; rintro e w' ⟨rfl, rfl⟩)
    refine (new_any seed _).mono ?_
    rintro e w2 ⟨rfl, rfl⟩
    have k2 := H1.out.1.alloc (.cells #[.bool true, .int .u64 seed, .pointer none] 106)
    have M2 : MSt base _ w1.heap.size seed [] [w1.heap.size] := MSt.made (seed := seed) (Nat.le_trans hb0 H1.out.1.size)
    have hP := lput_any (back := false) (d := d) M2 (L0.out.new_ k2) HR.out.2 (by simp; omega) (Nat.le_trans hb0 k2.size)
    rw [if_neg (by decide), ← HR.out.1] at hP
    have HP := Lib.hid hP
    have K2 := Lib.hid k2
    clear hP k2 M2 HLG q
    go_wp2_with fail
    refine HP.out.mono ?_
    rintro e w3 ⟨rfl, F3, hM3, hk3, hF3⟩
    have k3 : Keep No w0 w3 := K2.out.trans hk3 (fun x hx => .inr (by simp [In] at hx; subst hx; exact H1.out.1.size))
    have P3 : Pairs base w3 A1 out.length out := H1.out.2.2.1.keep (((Keep.refl No w1).alloc (.cells #[.bool true, .int .u64 seed, .pointer none] 106)).trans hk3 (fun x hx => .inr (by simp [In] at hx; omega))) (fun _ x => x.elim)
    obtain ⟨hn1, hn2, hn3⟩ := hM3.nodesOk
    have hpl := proveL_length seed out key
    have hps := proves_small (hn2 key)
    have hmt := fun o (h : chk seed key (digest seed out) st = some o) => hM3.metTrue h
    have H3 := Lib.hid (show _ ∧ _ ∧ _ ∧ _ ∧ _ ∧ _ ∧ _ ∧ _ from ⟨hM3, k3, P3, hn1, hn3 key, hps, H1.out.2.2.2, hmt⟩)
    have HDG := Lib.hid (fun W (h : Keep No w3 W) => mdigest_any (hM3.new_ h))
    have HPR := Lib.hid (fun W (h : Keep No w3 W) => prove_any (n := n) (c := c) (A := A) (hM3.new_ h) (Y0.out.new_ (k3.trans h (fun _ x => x.elim))) (Nat.le_trans hb0 (k3.trans h (fun _ x => x.elim)).size) (by omega))
    have KF := Lib.hid (K0.out.trans k3 (fun _ x => x.elim))
    clear hM3 hk3 hF3 k3 P3 HP K2 hn1 hn2 hn3 hps hmt
    have hC := check_all seed (digest seed out) A Sp n c sm sd key st w3 (Y0.out.new_ H3.out.2.1) (Sides.new_ S0.out H3.out.2.1) (by omega)
    have hCP := fun W (h : Keep No w3 W) (A4 : Option Addr) (c4 : Nat) (hS : Sides base W A4 (proveL seed out key).length (proveL seed out key)) => check_all seed (digest seed out) A A4 n c (proveL seed out key).length c4 key (proveL seed out key) W (Y0.out.new_ (H3.out.2.1.trans h (fun _ x => x.elim))) hS (by omega)
    rw [H3.out.2.2.2.2.1] at hCP
    have HC := Lib.hid hC
    have HCP := Lib.hid hCP
    clear hC hCP
    have HCO := Lib.hid (fun o (h : chk seed key (digest seed out) st = some o) => (show _ ∧ _ from ⟨H3.out.2.2.2.2.2.2.2 o h, chk_okay h⟩))
    have HCV := Lib.hid (fun v (h : chk seed key (digest seed out) st = some (some v)) => chk_val h)
    generalize ho : chk seed key (digest seed out) st = o at *
    clear ho
    generalize digest seed out = dg at *
    go_wp2_with (go_at_call 26; refine (HDG.out _ (Keep.refl _ _)).mono ?_; rintro e w' ⟨rfl, rfl⟩)
    cases o with
    | none =>
      refine HC.out.mono ?_
      rintro e w5 ⟨hk5, rfl⟩
      have K5 := Lib.hid hk5
      clear hk5 HC
      go_wp2_with (go_at_call 26; refine (HDG.out _ K5.out).mono ?_; rintro e w' ⟨rfl, rfl⟩)
      refine (HPR.out _ K5.out).mono ?_
      rintro e w4 ⟨A4, c4, rfl, hc4, ho4, hk4⟩
      have K4 := Lib.hid (K5.out.trans hk4 (fun _ x => x.elim))
      have S4 := Lib.hid (show Sides base w4 A4 (proveL seed out key).length (proveL seed out key) from OwnR.recs ho4 rfl)
      have HD := Lib.hid (HCP.out _ K4.out _ c4 S4.out)
      clear hc4 ho4 hk4 HCP S4 hpl HCO HCV
      generalize (proveL seed out key).length = np at *
      generalize getL out key = g at *
      go_wp2_with fail
      refine HD.out.mono ?_
      rintro e w6 ⟨hk6, hc6⟩
      have K6 := Lib.hid (KF.out.trans (K4.out.trans hk6 (fun _ x => x.elim)) (fun _ x => x.elim))
      cases g with
      | none =>
        obtain rfl := hc6
        clear hk6
        go_wp2
        go_ret
        exact ⟨rfl, K6.out⟩
      | some v =>
        obtain ⟨_, _, rfl, _⟩ := hc6
        clear hk6
        go_wp2
        go_ret
        exact ⟨rfl, K6.out⟩
    | some o =>
      obtain ⟨hor, hsok⟩ := HCO.out o rfl
      have HG := Lib.hid (fun W (h : Keep No w3 W) => rget_any (base := base) (b2 := base) A1 A out.length c1 n c out key W (H3.out.2.2.1.new_ h) (Y0.out.new_ (H3.out.2.1.trans h (fun _ x => x.elim))) H1.out.2.1.small (by omega) (by omega))
      have HGV := Lib.hid (fun v (hg : getL out key = some v) => getL_small H1.out.2.1 hg)
      have HNO := Lib.hid (fun W (h : Keep No w3 W) => rnodes_any (seed := seed) (d := c1) (H3.out.2.2.1.new_ h) H3.out.2.2.2.2.2.2.1 H1.out.2.1 (by omega) (Nat.le_trans hb0 (H3.out.2.1.trans h (fun _ x => x.elim)).size))
      have HME := Lib.hid (fun W (h : Keep No w3 W) (Np : Option Addr) (nc : Nat) (hN : NodesAt base W Np (nodesL seed out).length (nodesL seed out)) => met_any (base := base) (nc := nc) (t0 := build seed out) (n := n) (c := c) (d := sd) hN (fun j _ => by rw [Nat.zero_add]; rfl)
        (by
          have e1 := build_size seed out
          have e2 := nodesL_length seed out
          cases hb : build seed out with
          | nil => rw [hb] at e1; exact .inl ⟨rfl, by rw [e2, ← e1]; rfl⟩
          | node k v a b => rw [hb] at e1; exact .inr ⟨by rw [e2, ← e1]; simp only [PT.size]; omega, rfl⟩)
        (Y0.out.new_ (H3.out.2.1.trans h (fun _ x => x.elim))) (Sides.new_ S0.out (H3.out.2.1.trans h (fun _ x => x.elim))) hsok H3.out.2.2.2.1 (by omega) (by omega) (by rw [nodesL_length]; omega))
      have HMB := Lib.hid hor
      unfold metL at HMB
      generalize (build seed out).met seed key st = mt at *
      have hcv := Lib.hid (fun v (h : o = some v) => HCV.out v (by rw [h]))
      have hgv2 := HGV
      generalize hg : getL out key = g at *
      clear hor hsok HCO HCV hg hgv2
      cases o with
      | none =>
        refine HC.out.mono ?_
        rintro e w5 ⟨hk5, rfl⟩
        have K5 := Lib.hid hk5
        clear hk5 HC
        go_wp2_with fail
        refine (HG.out _ K5.out).mono ?_
        cases g with
        | none =>
          rintro e w6 ⟨⟨q6, rfl⟩, rfl⟩
          have K6 := Lib.hid (KF.out.trans (K5.out.drewN q6) (fun _ x => x.elim))
          clear HG HME HNO
          go_wp2_with fail
          refine (same_any (b1 := base) (b2 := base) none none 0 0 0 0 [] [] _ Bytes.none_ Bytes.none_ (by omega) (by omega)).mono ?_
          rintro e w10 ⟨rfl, q, rfl⟩
          go_wp2
          go_ret
          exact ⟨by simp, (KF.out.trans K5.out (fun _ x => x.elim)).drewN _⟩
        | some u =>
          rintro e w6 ⟨⟨q6, rfl⟩, Aw, cw, rfl, hbw⟩
          have K6 := Lib.hid (K5.out.drewN q6)
          have hmt : mt = true := HMB.out.resolve_left (fun e => by cases e)
          clear HG hbw
          go_wp2_with fail
          refine (HNO.out _ K6.out).mono ?_
          rintro e w7 ⟨A7, c7, rfl, hc7, ho7, hk7⟩
          have K7 := Lib.hid (K6.out.trans hk7 (fun _ x => x.elim))
          have HM7 := Lib.hid (HME.out _ K7.out A7 c7 (OwnR.recs ho7 rfl))
          rw [hmt] at HM7
          clear hc7 ho7 hk7 HME HNO
          go_wp2_with fail
          refine HM7.out.mono ?_
          rintro e w8 ⟨rfl, hk8⟩
          have K8 := Lib.hid (KF.out.trans (K7.out.trans hk8 (fun _ x => x.elim)) (fun _ x => x.elim))
          clear hk8
          go_wp2
          go_ret
          exact ⟨rfl, K8.out⟩
      | some v =>
        refine HC.out.mono ?_
        rintro e w5 ⟨hk5, Av, cv, rfl, hbv⟩
        have K5 := Lib.hid hk5
        have V5 := Lib.hid hbv
        clear hk5 hbv HC
        have hvl : v.length ≤ 140737488351232 := Nat.le_trans (hcv.out v rfl) (by omega)
        go_wp2_with fail
        refine (HG.out _ K5.out).mono ?_
        cases g with
        | none =>
          rintro e w6 ⟨⟨q6, rfl⟩, rfl⟩
          have K6 := Lib.hid (K5.out.drewN q6)
          have hmt : mt = true := HMB.out.resolve_left (fun e => by cases e)
          clear HG hvl
          go_wp2_with fail
          refine (HNO.out _ K6.out).mono ?_
          rintro e w7 ⟨A7, c7, rfl, hc7, ho7, hk7⟩
          have K7 := Lib.hid (K6.out.trans hk7 (fun _ x => x.elim))
          have HM7 := Lib.hid (HME.out _ K7.out A7 c7 (OwnR.recs ho7 rfl))
          rw [hmt] at HM7
          clear hc7 ho7 hk7 HME HNO
          go_wp2_with fail
          refine HM7.out.mono ?_
          rintro e w8 ⟨rfl, hk8⟩
          have K8 := Lib.hid (KF.out.trans (K7.out.trans hk8 (fun _ x => x.elim)) (fun _ x => x.elim))
          clear hk8
          go_wp2
          go_ret
          exact ⟨rfl, K8.out⟩
        | some u =>
          rintro e w6 ⟨⟨q6, rfl⟩, Aw, cw, rfl, hbw⟩
          have K6 := Lib.hid (K5.out.drewN q6)
          have hul : u.length ≤ 140737488351232 := Nat.le_trans (HGV.out u rfl) (by omega)
          have HSA := Lib.hid (same_any (b1 := base) (b2 := base) Av Aw _ cv _ cw v u (w5.drewN q6) (V5.out.drewN q6) hbw hvl hul)
          clear HG hbw hvl hul
          by_cases hvu : v = u
          · rw [decide_eq_true hvu] at HSA
            clear hvu HME HNO
            go_wp2_with fail
            refine HSA.out.mono ?_
            rintro e w10 ⟨rfl, q, rfl⟩
            go_wp2
            go_ret
            exact ⟨rfl, (KF.out.trans K5.out (fun _ x => x.elim)).drewN _⟩
          · rw [decide_eq_false hvu] at HSA
            have hmt : mt = true := HMB.out.resolve_left (fun e => hvu (by injection e))
            clear hvu
            go_wp2_with fail
            refine HSA.out.mono ?_
            rintro e w10 ⟨rfl, q, rfl⟩
            have K9 := Lib.hid (K6.out.drewN q)
            go_wp2_with fail
            refine (HNO.out _ (by rw [← World.drewN_drewN]; exact K9.out)).mono ?_
            rintro e w7 ⟨A7, c7, rfl, hc7, ho7, hk7⟩
            have K7 := Lib.hid ((show Keep No w3 (w5.drewN (q6 + q)) from by rw [← World.drewN_drewN]; exact K9.out).trans hk7 (fun _ x => x.elim))
            have HM7 := Lib.hid (HME.out _ K7.out A7 c7 (OwnR.recs ho7 rfl))
            rw [hmt] at HM7
            clear hc7 ho7 hk7 HME HNO
            go_wp2_with fail
            refine HM7.out.mono ?_
            rintro e w8 ⟨rfl, hk8⟩
            have K8 := Lib.hid (KF.out.trans (K7.out.trans hk8 (fun _ x => x.elim)) (fun _ x => x.elim))
            clear hk8
            go_wp2
            go_ret
            exact ⟨rfl, K8.out⟩
end Go.Proofs.Ytdmckjojeddaaaa
