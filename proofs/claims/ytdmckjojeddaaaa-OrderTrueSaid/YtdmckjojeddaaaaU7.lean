/- OrderProves: the walk. Conditions: none but that the arguments are read. -/
import Derived.Test.YtdmckjojeddaaaaU6
import Derived.Test.YtdmckjojeddaaaaR8
import Derived.Test.YtdmckjojeddaaaaR9
namespace Go.Proofs.Ytdmckjojeddaaaa
open Go.RowKit Go.Proofs.YtdmckjojeddaaaaKit Go.Proofs.YtdmckjojeddaaaaPlain

theorem MSt.nodesOk {base : Nat} {w : World} {mb : Nat} {seed : Int} {l : PairL} {F : List Nat} (h : MSt base w mb seed l F) : (∀ x ∈ nodesL seed l, keyOk x.key x.value) ∧ (∀ key, ∀ s ∈ proveL seed l key, keyOk s.key s.value ∧ 0 ≤ s.left ∧ 0 ≤ s.right) ∧ (∀ key, chk seed key (digest seed l) (proveL seed l key) = some (getL l key)) := by
  have hok := h.okay
  obtain ⟨t, _, hwf, rfl, _⟩ := h
  exact ⟨nodesL_mem hwf (fun p => keyOk p.1 p.2) hok, fun key => proveL_mem hwf hok, fun key => chk_proveL hwf hok⟩
theorem getL_small {l : PairL} {key v : List UInt8} (h : Okay l) (hg : getL l key = some v) : v.length ≤ 1000 := by
  unfold getL at hg
  split at hg
  · cases hp : l[rank key l]? with
    | none => rw [hp] at hg; cases hg
    | some p =>
      rw [hp] at hg
      simp at hg
      subst hg
      exact (h p (List.mem_of_getElem? hp)).2.2
  · cases hg
theorem proves_small {seed : Int} {l : PairL} {key : List UInt8} (h : ∀ s ∈ proveL seed l key, keyOk s.key s.value ∧ 0 ≤ s.left ∧ 0 ≤ s.right) : SidesSmall (proveL seed l key) ∧ ∀ s ∈ proveL seed l key, s.key.length ≤ 10000 ∧ s.value.length ≤ 10000 :=
  ⟨fun s hs => by obtain ⟨⟨h1, h2, h3⟩, _⟩ := h s hs; omega, fun s hs => by obtain ⟨⟨h1, h2, h3⟩, _⟩ := h s hs; omega⟩

set_option maxHeartbeats 2000000 in
set_option maxRecDepth 100000 in
theorem orderProves_walk {base : Nat} (seed : Int) (Lp : Option Addr) (m d : Nat) (l : PairL) (A : Option Addr) (n c : Nat) (key : List UInt8) (w : World) (hl : Pairs base w Lp m l) (hk : Bytes base w A n key) (hb : base ≤ w.heap.size) :
    Calls Try.prog 5 #[.int .u64 seed, .slice Lp m d, .slice A n c] w fun e w' => e = .returned (.bool true) ∧ Keep No w w' := by
  have H0 := Lib.hid (rising_any Lp m d l w hl hb)
  have HL := Lib.hid hl
  have HK := Lib.hid hk
  have hnk := hk.len
  have HNK := Lib.hid hnk
  clear hl hk hnk
  cases hr : risingL l with
  | none =>
    rw [hr] at H0
    clear hr
    go_enter Try.func5, Try.ntmps5
    go_wp2_with fail
    refine H0.out.mono ?_
    rintro e w1 ⟨rfl, hk⟩
    have HK := Lib.hid hk
    clear hk
    go_wp2
    go_ret
    exact ⟨rfl, HK.out⟩
  | some out =>
    rw [hr] at H0
    obtain ⟨hl4, hout, hok⟩ := risingL_some hr
    have HR := Lib.hid (show _ ∧ _ from ⟨hout, hok⟩)
    have hl5 : out.length ≤ l.length := by have := putAll_length [] l; rw [← hout] at this; simpa using this
    clear hr hout hok
    by_cases hlong : 2000 < n
    · have q : decide (2000 < n) = true := decide_eq_true hlong
      go_enter Try.func5, Try.ntmps5
      go_wp2_with fail
      refine H0.out.mono ?_
      rintro e w1 ⟨A1, c1, rfl, hc1, ho1, hok1, hl1⟩
      have HK := Lib.hid ho1.keepTo
      have HLG := Lib.hid (long_any A n c w1)
      rw [q] at HLG
      clear ho1 hok1 q
      go_wp2_with (go_at_call 15; refine HLG.out.mono ?_; rintro e w' ⟨rfl, rfl⟩)
      go_ret
      exact ⟨rfl, HK.out⟩
    · have q : decide (2000 < n) = false := decide_eq_false hlong
      go_enter Try.func5, Try.ntmps5
      go_wp2_with fail
      refine H0.out.mono ?_
      rintro e w1 ⟨A1, c1, rfl, hc1, ho1, hok1, hl1⟩
      have H1 := Lib.hid (show _ ∧ _ ∧ _ ∧ _ from ⟨ho1.keepTo, hok1, OwnP.pairs ho1, hc1⟩)
      have HLG := Lib.hid (long_any A n c w1)
      rw [q] at HLG
      clear ho1 hok1 q hc1 H0
      go_wp2_with (go_at_call 15; refine HLG.out.mono ?_; rintro e w' ⟨rfl, rfl⟩)
      refine (new_any seed _).mono ?_
      rintro e w2 ⟨rfl, rfl⟩
      have k2 := H1.out.1.alloc (.cells #[.bool true, .int .u64 seed, .pointer none] 106)
      have M2 : MSt base _ w1.heap.size seed [] [w1.heap.size] := MSt.made (seed := seed) (Nat.le_trans hb H1.out.1.size)
      have hP := lput_any (back := false) (d := d) M2 (HL.out.new_ k2) HR.out.2 (by simp; omega) (Nat.le_trans hb k2.size)
      rw [if_neg (by decide), ← HR.out.1] at hP
      have HP := Lib.hid hP
      have K2 := Lib.hid k2
      clear hP k2 M2 HLG
      go_wp2_with fail
      refine HP.out.mono ?_
      rintro e w3 ⟨rfl, F3, hM3, hk3, hF3⟩
      have k3 : Keep No w w3 := K2.out.trans hk3 (fun x hx => .inr (by simp [In] at hx; subst hx; exact H1.out.1.size))
      have P3 : Pairs base w3 A1 out.length out := H1.out.2.2.1.keep (K2.out.trans hk3 (fun x hx => .inr (by simp [In] at hx; subst hx; exact H1.out.1.size)) |> fun _ => ((Keep.refl No w1).alloc (.cells #[.bool true, .int .u64 seed, .pointer none] 106)).trans hk3 (fun x hx => .inr (by simp [In] at hx; omega))) (fun _ x => x.elim)
      obtain ⟨hn1, hn2, hn3⟩ := hM3.nodesOk
      have hpl := proveL_length seed out key
      have hps := proves_small (hn2 key)
      have H3 := Lib.hid (show _ ∧ _ ∧ _ ∧ _ ∧ _ ∧ _ ∧ _ from ⟨hM3, k3, P3, hn1, hn3 key, hps, H1.out.2.2.2⟩)
      have HDG := Lib.hid (mdigest_any hM3)
      have HPR := Lib.hid (fun W (h : Keep No w3 W) => prove_any (n := n) (c := c) (A := A) (hM3.new_ h) (HK.out.new_ (k3.trans h (fun _ x => x.elim))) (Nat.le_trans hb (k3.trans h (fun _ x => x.elim)).size) (by omega))
      clear hM3 hk3 hF3 k3 P3 HP K2 hn1 hn2 hn3 hps
      go_wp2_with (go_at_call 26; refine HDG.out.mono ?_; rintro e w' ⟨rfl, rfl⟩)
      refine (HPR.out w3 (Keep.refl _ _)).mono ?_
      rintro e w4 ⟨A4, c4, rfl, hc4, ho4, hk4⟩
      have hS4 : Sides base w4 A4 (proveL seed out key).length (proveL seed out key) := OwnR.recs ho4 rfl
      have hC := check_any seed (digest seed out) A A4 n c (proveL seed out key).length c4 key (proveL seed out key) w4 (HK.out.new_ (H3.out.2.1.trans hk4 (fun _ x => x.elim))) hS4 (by omega) H3.out.2.2.2.2.2.1.2
      rw [H3.out.2.2.2.2.1] at hC
      have HC := Lib.hid hC
      have H4 := Lib.hid hk4
      clear hC hS4 ho4 hk4 hc4
      generalize digest seed out = dg at *
      obtain ⟨np, hnp⟩ : ∃ np, (proveL seed out key).length = np := ⟨_, rfl⟩
      rw [hnp] at HC ⊢
      clear hnp hpl HDG
      go_wp2_with fail
      have HG := Lib.hid (fun W (h : Keep No w3 W) => rget_any (base := base) (b2 := base) A1 A out.length c1 n c out key W (H3.out.2.2.1.new_ h) (HK.out.new_ (H3.out.2.1.trans h (fun _ x => x.elim))) H1.out.2.1.small (by omega) (by omega))
      have HRP := Lib.hid (fun W (h : Keep No w3 W) => rprove_any (seed := seed) (d := c1) (n := n) (c := c) (A := A) (key := key) (H3.out.2.2.1.new_ h) H3.out.2.2.2.2.2.2 H1.out.2.1 (by omega) (Nat.le_trans hb (H3.out.2.1.trans h (fun _ x => x.elim)).size) (HK.out.new_ (H3.out.2.1.trans h (fun _ x => x.elim))) (by omega) H3.out.2.2.2.1)
      have HSS := Lib.hid (fun W (L1 L2 : Option Addr) (d1 d2 : Nat) (h1 : Sides base W L1 (proveL seed out key).length (proveL seed out key)) (h2 : Sides base W L2 (proveL seed out key).length (proveL seed out key)) => samesides_any (b1 := base) (b2 := base) L1 L2 _ d1 _ d2 _ W h1 h2 H3.out.2.2.2.2.2.1.1 (by have := proveL_length seed out key; omega))
      have HGV := Lib.hid (fun v (hg : getL out key = some v) => getL_small H1.out.2.1 hg)
      generalize proveL seed out key = pr at *
      generalize getL out key = g at *
      cases g with
      | none =>
        refine HC.out.mono ?_
        rintro e w5 ⟨hk5, rfl⟩
        have K5 := Lib.hid (H4.out.trans hk5 (fun _ x => x.elim))
        clear hk5 HC H4
        go_wp2_with fail
        refine (HG.out _ K5.out).mono ?_
        rintro e w6 ⟨⟨q6, rfl⟩, rfl⟩
        have K6 := Lib.hid (K5.out.drewN q6)
        clear K5 HG
        go_wp2_with fail
        refine (HPR.out _ K6.out).mono ?_
        rintro e w7 ⟨A7, c7, rfl, hc7, ho7, hk7⟩
        have K7 := Lib.hid (K6.out.trans hk7 (fun _ x => x.elim))
        have S7 := Lib.hid (show Sides base w7 A7 pr.length pr from OwnR.recs ho7 rfl)
        clear hc7 ho7 hk7 HPR
        go_wp2_with fail
        refine (HRP.out _ K7.out).mono ?_
        rintro e w8 ⟨A8, c8, rfl, hc8, ho8, hk8⟩
        have K8 := Lib.hid (K7.out.trans hk8 (fun _ x => x.elim))
        have S8 := Lib.hid (show Sides base w8 A8 pr.length pr from OwnR.recs ho8 rfl)
        have S7' := Lib.hid (Sides.new_ S7.out hk8)
        clear hc8 ho8 hk8 HRP
        go_wp2_with fail
        refine (HSS.out _ _ _ _ _ S7'.out S8.out).mono ?_
        rintro e w9 ⟨rfl, hk9⟩
        have K9 := Lib.hid (H3.out.2.1.trans (K8.out.trans hk9 (fun _ x => x.elim)) (fun _ x => x.elim))
        clear hk9
        go_wp2_with fail
        refine (same_any (b1 := base) (b2 := base) none none 0 0 0 0 [] [] w9 Bytes.none_ Bytes.none_ (by omega) (by omega)).mono ?_
        rintro e w10 ⟨rfl, q, rfl⟩
        go_wp2
        go_ret
        exact ⟨by simp, K9.out.drewN q⟩
      | some v =>
        refine HC.out.mono ?_
        rintro e w5 ⟨hk5, Av, cv, rfl, hbv⟩
        have K5 := Lib.hid (H4.out.trans hk5 (fun _ x => x.elim))
        have V5 := Lib.hid hbv
        clear hk5 hbv HC H4
        go_wp2_with fail
        refine (HG.out _ K5.out).mono ?_
        rintro e w6 ⟨⟨q6, rfl⟩, Aw, cw, rfl, hbw⟩
        have K6 := Lib.hid (K5.out.drewN q6)
        have V6 := Lib.hid (show _ ∧ _ from ⟨V5.out.drewN q6, hbw⟩)
        clear K5 HG V5 hbw
        go_wp2_with fail
        refine (HPR.out _ K6.out).mono ?_
        rintro e w7 ⟨A7, c7, rfl, hc7, ho7, hk7⟩
        have K7 := Lib.hid (K6.out.trans hk7 (fun _ x => x.elim))
        have V7 := Lib.hid (show _ ∧ _ from ⟨V6.out.1.new_ hk7, V6.out.2.new_ hk7⟩)
        have S7 := Lib.hid (show Sides base w7 A7 pr.length pr from OwnR.recs ho7 rfl)
        clear hc7 ho7 hk7 HPR V6
        go_wp2_with fail
        refine (HRP.out _ K7.out).mono ?_
        rintro e w8 ⟨A8, c8, rfl, hc8, ho8, hk8⟩
        have K8 := Lib.hid (K7.out.trans hk8 (fun _ x => x.elim))
        have V8 := Lib.hid (show _ ∧ _ from ⟨V7.out.1.new_ hk8, V7.out.2.new_ hk8⟩)
        have S8 := Lib.hid (show Sides base w8 A8 pr.length pr from OwnR.recs ho8 rfl)
        have S7' := Lib.hid (Sides.new_ S7.out hk8)
        clear hc8 ho8 hk8 HRP V7
        go_wp2_with fail
        refine (HSS.out _ _ _ _ _ S7'.out S8.out).mono ?_
        rintro e w9 ⟨rfl, hk9⟩
        have K9 := Lib.hid (H3.out.2.1.trans (K8.out.trans hk9 (fun _ x => x.elim)) (fun _ x => x.elim))
        have V9 := Lib.hid (show _ ∧ _ from ⟨V8.out.1.new_ hk9, V8.out.2.new_ hk9⟩)
        have hvl : v.length ≤ 140737488351232 := Nat.le_trans (HGV.out v rfl) (by omega)
        clear hk9 V8
        go_wp2_with fail
        refine (same_any (b1 := base) (b2 := base) Av Aw _ cv _ cw v v w9 V9.out.1 V9.out.2 hvl hvl).mono ?_
        rintro e w10 ⟨rfl, q, rfl⟩
        rw [decide_eq_true (rfl : v = v)]
        go_wp2
        go_ret
        exact ⟨rfl, K9.out.drewN q⟩
end Go.Proofs.Ytdmckjojeddaaaa
