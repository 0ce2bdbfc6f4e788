/- OrderOwn: the walk. Conditions: none but that the arguments are read. -/
import Derived.Test.YtdmckjojeddaaaaQB
import Derived.Test.YtdmckjojeddaaaaMC
import Derived.Test.YtdmckjojeddaaaaW2
import Derived.Test.YtdmckjojeddaaaaLG
namespace Go.Proofs.Ytdmckjojeddaaaa
open Go.RowKit Go.Proofs.YtdmckjojeddaaaaKit Go.Proofs.YtdmckjojeddaaaaPlain

theorem long_of {b : Bool} (A : Option Addr) (n c : Nat) (w : World) (h : Hid (decide (2000 < n) = b)) : Calls Try.prog 15 #[.slice A n c] w fun e w' => e = .returned (.bool b) ∧ w = w' := h.out ▸ long_any A n c w

theorem addr_zero (a : Addr) : a.add 0 = a := by unfold Addr.add; simp
/-- A map, the rows that it should have, and the key that is asked. -/
def OwnI (base : Nat) (w0 : World) (mb : Nat) (seed : Int) (out : PairL) (LA A : Option Addr) (n : Nat) (key : List UInt8) (l : PairL) (w : World) : Prop :=
  ∃ F, MSt base w mb seed l F ∧ (∀ x ∈ F, w0.heap.size ≤ x) ∧ Keep No w0 w ∧ Pairs base w LA out.length out ∧ Bytes base w A n key
theorem OwnI.new_ {base : Nat} {w0 : World} {mb : Nat} {seed : Int} {out : PairL} {LA A : Option Addr} {n : Nat} {key : List UInt8} {l : PairL} {w w' : World} (h : OwnI base w0 mb seed out LA A n key l w) (k : Keep No w w') : OwnI base w0 mb seed out LA A n key l w' := by
  obtain ⟨F, h1, h2, h3, h4, h5⟩ := h
  exact ⟨F, h1.new_ k, h2, h3.trans k (fun _ x => x.elim), h4.new_ k, h5.new_ k⟩

/-- Put of copies that will be written over. -/
theorem own_put {base : Nat} {wr w2 : World} {seed : Int} {mb : Nat} {l : PairL} {F : List Nat} {A7 A8 : Option Addr} {n7 c7 n8 c8 : Nat} {key value : List UInt8} (h : MSt base wr mb seed l F) (k2 : Keep No wr w2) (b7 : BW wr.heap.size w2 A7 n7) (b8 : BW wr.heap.size w2 A8 n8)
    (y7 : Bytes base w2 A7 n7 key) (y8 : Bytes base w2 A8 n8 value) (hok : keyOk key value) (hsz : l.length < 100000) (hb : base ≤ wr.heap.size) :
    Calls Try.prog 43 #[.pointer (some ⟨mb, 0, none⟩), .slice A7 n7 c7, .slice A8 n8 c8] w2 fun e w' => e = .returned (.int .i64 0) ∧ ∃ F', MStC (fun b => wr.heap.size ≤ b ∧ b < w2.heap.size) base w' mb seed (putL l key value) F' ∧ Keep (In F) wr w' ∧
      (∀ x ∈ F', x ∈ F ∨ wr.heap.size ≤ x) ∧ BW wr.heap.size w' A7 n7 ∧ BW wr.heap.size w' A8 n8 ∧ Bytes base w' A7 n7 key ∧ Bytes base w' A8 n8 value := by
  have hm2 := h.new_ k2
  refine (MPut_clean ((h.clean (Bad := fun b => wr.heap.size ≤ b ∧ b < w2.heap.size) (fun b hb => hb.1)).new_ k2) y7 y8 hok hsz (Nat.le_trans hb k2.size) (fun x hx => hx.2)).mono ?_
  rintro e w' ⟨rfl, F', h1, h2, h3⟩
  exact ⟨rfl, F', h1, (k2.mono (fun _ x => x.elim)).trans h2 (fun b hb => .inl hb), fun x hx => (h3 x hx).imp id (fun h => Nat.le_trans k2.size h), b7.keep h2 hm2.mut, b8.keep h2 hm2.mut, y7.keep h2 hm2.mut, y8.keep h2 hm2.mut⟩
/-- The copies have been written over. -/
theorem own_round {base : Nat} {wr w2 w3 w5 w6 w7 : World} {seed : Int} {mb : Nat} {l : PairL} {F F' : List Nat} {A7 A8 : Option Addr} {n7 n8 : Nat} (hc : MStC (fun b => wr.heap.size ≤ b ∧ b < w2.heap.size) base w3 mb seed l F') (hk : Keep (In F) wr w3)
    (b7 : BW wr.heap.size w2 A7 n7) (b8 : BW wr.heap.size w2 A8 n8) (k5 : Keep No w3 w5) (k6 : Keep (Its wr.heap.size w5 A7 n7) w5 w6) (k7 : Keep (Its wr.heap.size w6 A8 n8) w6 w7) : MSt base w7 mb seed l F' ∧ Keep (In F) wr w7 := by
  have h5 := hc.new_ k5
  have h6 := h5.spoil k6 (fun b hb => hb.of b7) (fun b hb => hb.not_mut)
  have h7 := h6.spoil k7 (fun b hb => hb.of b8) (fun b hb => hb.not_mut)
  exact ⟨h7.mst, ((hk.trans k5 (fun _ x => x.elim)).trans k6 (fun b hb => .inr hb.2.2.1)).trans k7 (fun b hb => .inr hb.2.2.1)⟩

set_option maxHeartbeats 4000000 in
set_option maxRecDepth 100000 in
theorem orderOwn_walk {base : Nat} (seed : Int) (Lp : Option Addr) (m d : Nat) (l : PairL) (A : Option Addr) (n c : Nat) (key : List UInt8) (w : World) (hl : Pairs base w Lp m l) (hk : Bytes base w A n key) (hb : base ≤ w.heap.size) :
    Calls Try.prog 12 #[.int .u64 seed, .slice Lp m d, .slice A n c] w fun e w' => e = .returned (.bool true) ∧ Keep No w w' := by
  have H0 := Lib.hid (rising_any Lp m d l w hl hb)
  have HK := Lib.hid hk
  clear hl hk
  cases hr : risingL l with
  | none =>
    rw [hr] at H0
    clear hr
    go_enter Try.func12, Try.ntmps12
    go_wp2_with fail
    refine H0.out.mono ?_
    rintro e w1 ⟨rfl, hk1⟩
    have K1 := Lib.hid hk1
    clear hk1
    go_wp2
    go_ret
    exact ⟨rfl, K1.out⟩
  | some out =>
    rw [hr] at H0
    have HSO := Lib.hid (risingL_sorted hr)
    clear hr
    go_enter Try.func12, Try.ntmps12
    go_wp2_with fail
    refine H0.out.mono ?_
    rintro e w1 ⟨A1, c1, rfl, hc1, ho1, hok1, hl1⟩
    have K1 := Lib.hid ho1.keepTo
    have P1 := Lib.hid (OwnP.pairs ho1)
    have OK1 := Lib.hid hok1
    clear ho1 hok1 H0
    by_cases hlong : 2000 < n
    · have q1 := Lib.hid (decide_eq_true hlong)
      go_wp2_with (go_at_call 15; refine (long_of _ _ _ _ q1).mono ?_; rintro e w' ⟨rfl, rfl⟩)
      go_ret
      exact ⟨rfl, K1.out⟩
    have q1 := Lib.hid (decide_eq_false hlong)
    by_cases hz : out.length = 0
    · have hz1 : ((out.length : Int) == 0) = true := by simp; exact List.eq_nil_of_length_eq_zero hz
      clear hz
      go_wp2_with (go_at_call 15; refine (long_of _ _ _ _ q1).mono ?_; rintro e w' ⟨rfl, rfl⟩)
      go_ret
      exact ⟨rfl, K1.out⟩
    have hz1 : ((out.length : Int) == 0) = false := by simp; intro e; subst e; exact hz rfl
    have hpos : 0 < out.length := by omega
    clear hz
    have hb1 : base ≤ w1.heap.size := Nat.le_trans hb K1.out.size
    have HI0 := Lib.hid (show OwnI base w w1.heap.size seed out A1 A n key (putAll [] (out.take 0)) (w1.alloc (.cells #[.bool true, .int .u64 seed, .pointer none] 106)) from
      ⟨_, MSt.made hb1, fun x hx => by simp at hx; subst hx; exact K1.out.size, K1.out.alloc _, P1.out.new_ ((Keep.refl No w1).alloc _), HK.out.new_ (K1.out.alloc _)⟩)
    go_wp2_with (first
      | (go_at_call 15; refine (long_of _ _ _ _ q1).mono ?_; rintro e w' ⟨rfl, rfl⟩)
      | (go_at_call 20; refine (new_any seed _).mono ?_; rintro e w' ⟨rfl, rfl⟩))
    generalize w1.alloc (.cells #[.bool true, .int .u64 seed, .pointer none] 106) = w2 at *
    generalize w1.heap.size = mb at *
    clear P1
    go_loopw [10] (fun v10 wr => ∃ k : Nat, k ≤ out.length ∧ v10 = .int .i64 k ∧ Hid (OwnI base w mb seed out A1 A n key (putAll [] (out.take k)) wr)) (fun i _ => out.length - (intOf i).toNat)
    case atStart => exact ⟨0, Nat.zero_le _, rfl, HI0⟩
    case round =>
      clear HI0
      obtain ⟨k, hk, rfl, hI⟩ := hrel
      obtain ⟨F, hm, hF, hkw, hp, hkey⟩ := hI.out
      have hbr : base ≤ wr.heap.size := Nat.le_trans hb hkw.size
      by_cases hlt : k < out.length
      · obtain ⟨ad, B1, d1, B2, d2, rfl, him, e0, e1, b1, b2⟩ := hp.at_ hlt
        have hkv := OK1.out _ (List.getElem_mem hlt)
        have hsu := Lib.hid (putAll_succ (l := []) hlt)
        have hpl := putAll_length [] (out.take k)
        have hptl : (putAll [] (out.take k)).length < 100000 := by simp at hpl; omega
        have hmt := hm.mut
        have hnF : ¬ In F ad.block := him.off (Off.of_mut rfl hmt)
        have hab := him.lt
        have i0 : (0 : Int) ≤ (k : Int) := by omega
        have i1 : (k : Int) < (out.length : Int) := by omega
        have HM := Lib.hid (show _ ∧ _ ∧ _ ∧ _ ∧ _ from ⟨hm, hF, hkw, hp, hkey⟩)
        have HB := Lib.hid (show _ ∧ _ ∧ _ from ⟨b1, b2, hkv⟩)
        have HMT := Lib.hid hmt
        have HNF := Lib.hid hnF
        have hk1 := hkv.2.1
        have hk2 := hkv.2.2
        clear him b1 b2 hkv hm hF hkw hp hkey hI hmt hnF hpl
        generalize out[k] = p at *
        have HE := Lib.hid (show _ ∧ _ from ⟨e0, e1⟩)
        have HCL := Lib.hid (show ∀ (S : Nat → Prop) W, Keep S wr W → ¬ S ad.block → W.cell? (ad.add (k * 2)) = some (.slice B1 p.1.length d1) ∧ W.cell? ⟨(ad.add (k * 2)).block, (ad.add (k * 2)).off + 1, none⟩ = some (.slice B2 p.2.length d2) from fun S W hk hn =>
          ⟨(hk.cell (p := ad.add (k * 2)) (by rw [block_of_add]; exact hab) (by rw [block_of_add]; exact hn)).trans HE.out.1, (hk.cell (p := ⟨(ad.add (k * 2)).block, (ad.add (k * 2)).off + 1, none⟩) (by show (ad.add (k * 2)).block < _; rw [block_of_add]; exact hab) (by show ¬ S (ad.add (k * 2)).block; rw [block_of_add]; exact hn)).trans HE.out.2⟩)
        have HC1 := Lib.hid (fun W (k : Keep No wr W) => rcopy_any B1 _ d1 p.1 W (HB.out.1.new_ k) (by omega))
        have HC2 := Lib.hid (fun W (k : Keep No wr W) => rcopy_any B2 _ d2 p.2 W (HB.out.2.1.new_ k) (by omega))
        go_wp2_with fail
        go_region_held3 (fun W => W.cell? (ad.add (k * 2)) = some (.slice B1 p.1.length d1) ∧ W.cell? ⟨(ad.add (k * 2)).block, (ad.add (k * 2)).off + 1, none⟩ = some (.slice B2 p.2.length d2) ∧ Keep No wr W)
          (first
            | exact ⟨HE.out.1, HE.out.2, (Keep.refl No wr).drew⟩
            | (go_split_ands; have hkt : Keep No wr _ := Keep.trans (by assumption) hkd (fun _ x => x.elim); exact ⟨(HCL.out _ _ hkt (fun x => x)).1, (HCL.out _ _ hkt (fun x => x)).2, hkt⟩)
            | go_keep)
          (first
            | (go_at_call_of 42 (Value.slice B1 p.1.length d1); go_split_ands; have hkt : Keep No wr _ := (by assumption); refine (HC1.out _ hkt).mono ?_; rintro e wN ⟨A7, c7, rfl, hc7, ho7, hkd⟩; have S7 := Lib.hid (show BW wr.heap.size wN A7 p.1.length ∧ Bytes base wN A7 p.1.length p.1 from ⟨BW.of_own ho7 hkt.size, Bytes.of_own ho7⟩); have KP := Lib.hid hkd; clear ho7 hkt)
            | (go_at_call_of 42 (Value.slice B2 p.2.length d2); go_split_ands; have hkt : Keep No wr _ := (by assumption); refine (HC2.out _ hkt).mono ?_; rintro e wN ⟨A8, c8, rfl, hc8, ho8, hkd⟩; have S8 := Lib.hid (show BW wr.heap.size wN A8 p.2.length ∧ Bytes base wN A8 p.2.length p.2 from ⟨BW.of_own ho8 hkt.size, Bytes.of_own ho8⟩); have KR := Lib.hid hkd; clear ho8 hkt))
        all_goals
          go_split_ands
          have hkf : Keep No wr wN := by assumption
          have s7 : BW wr.heap.size wN A7 p.1.length ∧ Bytes base wN A7 p.1.length p.1 := by first | exact S7.out | exact ⟨S7.out.1.new_ KR.out, S7.out.2.new_ KR.out⟩
          have s8 : BW wr.heap.size wN A8 p.2.length ∧ Bytes base wN A8 p.2.length p.2 := by first | exact S8.out | exact ⟨S8.out.1.new_ KP.out, S8.out.2.new_ KP.out⟩
          have HPut := Lib.hid (own_put (c7 := c7) (c8 := c8) HM.out.1 hkf s7.1 s8.1 s7.2 s8.2 HB.out.2.2 hptl hbr)
          have HS := Lib.hid (show _ ∧ _ from ⟨s7.1, s8.1⟩)
          clear s7 s8 S7 S8 KP KR hkf HC1 HC2 e0 e1
          generalize putAll [] (out.take k) = acc at *
          go_wp2_with fail
          refine HPut.out.mono ?_
          rintro e w3 ⟨rfl, F', hc3, hk3, hF3, b7, b8, y7, y8⟩
          obtain ⟨e0, e1⟩ := HCL.out _ _ hk3 HNF.out
          have HS1 := Lib.hid (same_any (b1 := base) (b2 := base) A7 B1 _ c7 _ d1 p.1 p.1 w3 y7 (HB.out.1.keep hk3 HMT.out) (by omega) (by omega))
          have HS2 := Lib.hid (fun q => same_any (b1 := base) (b2 := base) A8 B2 _ c8 _ d2 p.2 p.2 (w3.drewN q) (y8.drewN q) ((HB.out.2.1.keep hk3 HMT.out).drewN q) (by omega) (by omega))
          rw [decide_eq_true rfl] at HS1
          rw [show decide (p.2 = p.2) = true from decide_eq_true rfl] at HS2
          have H3 := Lib.hid (show _ ∧ _ ∧ _ ∧ _ ∧ _ from ⟨hc3, hk3, hF3, b7, b8⟩)
          clear hc3 hk3 hF3 b7 b8 y7 y8 HPut
          go_wp2_with fail
          refine HS1.out.mono ?_
          rintro e w4 ⟨rfl, q, rfl⟩
          clear HS1
          go_wp2_with fail
          refine (HS2.out q).mono ?_
          rintro e w5 ⟨rfl, q2, rfl⟩
          clear HS2 e0 e1
          have k5 : Keep No w3 (w3.drewN (q + q2)) := (Keep.refl No w3).drewN (q + q2)
          have HP1 := Lib.hid (spoil_any (c := c7) (H3.out.2.2.2.1.new_ k5) (by omega))
          have K5 := Lib.hid k5
          clear k5
          go_wp2_with fail
          refine HP1.out.mono ?_
          rintro e w6 ⟨rfl, t6, k6⟩
          have HP2 := Lib.hid (spoil_any (c := c8) ((H3.out.2.2.2.2.new_ K5.out).soft t6) (by omega))
          have K6 := Lib.hid k6
          clear t6 k6 HP1
          go_wp2_with fail
          refine HP2.out.mono ?_
          rintro e w7 ⟨rfl, t7, k7⟩
          obtain ⟨m7, kF⟩ := own_round H3.out.1 H3.out.2.1 HS.out.1 HS.out.2 K5.out K6.out k7
          have HN := Lib.hid (show OwnI base w mb seed out (some ad) A n key (putAll [] (out.take (k + 1))) w7 from by
            rw [hsu.out]
            exact ⟨F', m7, fun x hx => (H3.out.2.2.1 x hx).elim (HM.out.2.1 x) (fun h => Nat.le_trans HM.out.2.2.1.size h), HM.out.2.2.1.trans kF (fun x hx => .inr (HM.out.2.1 x hx)), HM.out.2.2.2.1.keep kF HMT.out, HM.out.2.2.2.2.keep kF HMT.out⟩)
          clear m7 kF t7 k7 HP2 H3 K5 K6 HM HB HMT HNF HCL HE HS hsu
          go_wp2
          go_roundw
          case rel => exact ⟨k + 1, by omega, by go_num, HN⟩
          case measure => simp [intOf]; omega
      · obtain rfl : k = out.length := by omega
        rw [List.take_length, putAll_self HSO.out] at hm hI
        obtain ⟨ad, B1, d1, B2, d2, rfl, him, e0, e1, b1, b2⟩ := hp.at_ hpos
        rw [Nat.zero_mul, addr_zero] at e0 e1
        have HI := Lib.hid hI.out
        have HG := Lib.hid (mget_bw (c := d1) hm b1)
        clear hm hF hkw hp hkey hI b1 b2 him
        generalize out[0] = p at *
        go_wp2_with fail
        refine HG.out.mono ?_
        rintro e w2 ⟨A3, n3, c3, x3, rfl, b3, hn3, k3⟩
        have HS3 := Lib.hid (spoil_any (c := c3) b3 (by omega))
        have I2 := Lib.hid (show _ ∧ _ from ⟨HI.out.new_ k3, k3⟩)
        clear HG b3 k3 e0 e1
        go_wp2_with fail
        refine HS3.out.mono ?_
        rintro e w3 ⟨rfl, t3, _⟩
        have I3 := Lib.hid (HI.out.new_ (t3.old I2.out.2 (Nat.le_refl _)))
        clear t3 HS3 I2 HI
        obtain ⟨F, hm, hF, hkw, hp, hkey⟩ := I3.out
        have HA := Lib.hid (mat_bw ((out.length : Int) - 1) hm (by omega))
        have i1 : (1 : Int) ≤ (out.length : Int) := by omega
        clear hm hF hkw hp hkey
        go_wp2_with fail
        refine HA.out.mono ?_
        rintro e w4 ⟨A4, n4, c4, A5, n5, c5, x4, rfl, b4, b5, hn4, hn5, k4⟩
        clear HA
        have ka : Keep No w4 (w4.alloc (.cells #[.slice A4 n4 c4, .slice A5 n5 c5] 82)) := (Keep.refl No w4).alloc _
        have B4 := Blk.new w4 82 #[.slice A4 n4 c4, .slice A5 n5 c5]
        have hsz4 : w3.heap.size ≤ w4.heap.size := k4.size
        go_wp2_with fail
        generalize w4.alloc (.cells #[.slice A4 n4 c4, .slice A5 n5 c5] 82) = wp at *
        have H4 := Lib.hid (show _ ∧ _ ∧ _ ∧ _ from ⟨b4.new_ ka, b5.new_ ka, k4.trans ka (fun _ x => x.elim), B4⟩)
        clear b4 b5 k4 ka B4
        have HS4 := Lib.hid (spoil_any (c := c4) H4.out.1 (by omega))
        refine HS4.out.mono ?_
        rintro e w5 ⟨rfl, t5, _⟩
        have f1 := (t5.other _ _ _ hsz4 H4.out.2.2.2 (by decide)).cell 1
        simp only [List.getElem?_toArray, List.getElem?_cons_zero, List.getElem?_cons_succ] at f1
        have T5 := Lib.hid t5
        have HS5 := Lib.hid (spoil_any (c := c5) (H4.out.2.1.soft t5) (by omega))
        clear t5 HS4
        go_wp2_with fail
        refine HS5.out.mono ?_
        rintro e w6 ⟨rfl, t6, _⟩
        have I6 := Lib.hid (I3.out.new_ ((T5.out.trans t6).old H4.out.2.2.1 (Nat.le_refl _)))
        clear t6 HS5 T5 H4 f1 I3 hsz4
        have hb6 : base ≤ w6.heap.size := by obtain ⟨_, _, _, hkw, _⟩ := I6.out; exact Nat.le_trans hb hkw.size
        have HSP := Lib.hid (show Calls Try.prog 37 #[.pointer (some ⟨mb, 0, none⟩), .slice none 0 0, .slice none 0 0, .bool false] w6 (HandRet 82 2 w6) from by obtain ⟨F, hm, _⟩ := I6.out; exact span_bw hm hb6 (by omega))
        have HND := Lib.hid (fun W (k : Keep No w6 W) => (show Calls Try.prog 22 #[.pointer (some ⟨mb, 0, none⟩)] W (HandRet 44 6 W) from by obtain ⟨F, hm, _⟩ := I6.out; exact nodes_bw (hm.new_ k) (Nat.le_trans hb6 k.size) (by omega)))
        have HPR := Lib.hid (fun W (k : Keep No w6 W) => (show Calls Try.prog 28 #[.pointer (some ⟨mb, 0, none⟩), .slice A n c] W (HandRet 29 4 W) from by obtain ⟨F, hm, _, _, _, hkey⟩ := I6.out; exact prove_bw (hm.new_ k) (hkey.new_ k) (Nat.le_trans hb6 k.size) (by omega)))
        go_wp2_with fail
        refine HSP.out.mono ?_
        rintro e w7 ⟨A7, n7, c7, rfl, h7, hn7, k7⟩
        have H7 := Lib.hid (show _ ∧ _ from ⟨h7, k7⟩)
        clear h7 k7 HSP
        go_wp2_with fail
        refine (HND.out w7 H7.out.2).mono ?_
        rintro e w8 ⟨A8, n8, c8, rfl, h8, hn8, k8⟩
        have H8 := Lib.hid (show _ ∧ _ from ⟨h8, k8⟩)
        clear h8 k8 HND
        go_wp2_with fail
        refine (HPR.out w8 (H7.out.2.trans H8.out.2 (fun _ x => x.elim))).mono ?_
        rintro e w9 ⟨A9, n9, c9, rfl, h9, hn9, k9⟩
        have H9 := Lib.hid h9
        have K9 := Lib.hid (show Keep No w6 w9 from (H7.out.2.trans H8.out.2 (fun _ x => x.elim)).trans k9 (fun _ x => x.elim))
        have R7 := Lib.hid (show HandR 82 2 w6.heap.size w9 A7 n7 from H7.out.1.soft (Soft.new_ (H8.out.2.trans k9 (fun _ x => x.elim))) (by decide))
        have R8 := Lib.hid (show HandR 44 6 w6.heap.size w9 A8 n8 from (H8.out.1.low H7.out.2.size).soft (Soft.new_ k9) (by decide))
        have R9 := Lib.hid (show HandR 29 4 w6.heap.size w9 A9 n9 from H9.out.low (Nat.le_trans H7.out.2.size H8.out.2.size))
        clear H7 H8 H9 k9 HPR
        have S0 := Lib.hid (Soft.refl w6.heap.size w9)
        go_wp2_with fail
        go_loopw [20] (fun v20 wr => ∃ k : Nat, k ≤ n7 ∧ v20 = .int .i64 k ∧ Hid (Soft w6.heap.size w9 wr)) (fun i _ => n7 - (intOf i).toNat)
        case atStart => exact ⟨0, Nat.zero_le _, rfl, S0⟩
        case round =>
          clear S0
          obtain ⟨k, hk, rfl, hS⟩ := hrel
          by_cases hlt : k < n7
          · obtain ⟨ad2, X1, m1, z1, X2, m2, z2, rfl, e0, e1, x1, x2, hm1, hm2⟩ := (R7.out.soft hS.out (by decide)).at_ hlt
            have i0 : (0 : Int) ≤ (k : Int) := by omega
            have i1 : (k : Int) < (n7 : Int) := by omega
            have HSa := Lib.hid (spoil_any (c := z1) x1 (by omega))
            clear x1 x2 e1
            go_wp2_with fail
            refine HSa.out.mono ?_
            rintro e wa ⟨rfl, ta, _⟩
            have TA := Lib.hid (hS.out.trans ta)
            clear ta HSa hS e0
            obtain ⟨ad3, Y1, j1, y1, Y2, j2, y2, ead, _, g1, _, b2, _, hj2⟩ := (R7.out.soft TA.out (by decide)).at_ hlt
            injection ead with ead
            subst ead
            have HSb := Lib.hid (spoil_any (c := y2) b2 (by omega))
            clear b2
            go_wp2_with fail
            refine HSb.out.mono ?_
            rintro e wb ⟨rfl, tb, _⟩
            have TB := Lib.hid (TA.out.trans tb)
            clear tb HSb TA g1
            go_wp2
            go_roundw
            case rel => exact ⟨k + 1, by omega, by go_num, TB⟩
            case measure => simp [intOf]; omega
          · obtain rfl : k = n7 := by omega
            have S1 := hS
            clear hS
            obtain ⟨wl1, rfl⟩ : ∃ x : World, x = wr := ⟨_, rfl⟩
            go_wp2_with fail
            go_loopw [21] (fun v21 wr => ∃ k : Nat, k ≤ n8 ∧ v21 = .int .i64 k ∧ Hid (Soft w6.heap.size w9 wr)) (fun i _ => n8 - (intOf i).toNat)
            case atStart => exact ⟨0, Nat.zero_le _, rfl, S1⟩
            case round =>
              clear S1
              obtain ⟨k, hk, rfl, hS⟩ := hrel
              by_cases hlt : k < n8
              · obtain ⟨ad2, X1, m1, z1, X2, m2, z2, rfl, e0, e1, x1, x2, hm1, hm2⟩ := (R8.out.soft hS.out (by decide)).at_ hlt
                have i0 : (0 : Int) ≤ (k : Int) := by omega
                have i1 : (k : Int) < (n8 : Int) := by omega
                have HSa := Lib.hid (spoil_any (c := z1) x1 (by omega))
                clear x1 x2 e1
                go_wp2_with fail
                refine HSa.out.mono ?_
                rintro e wa ⟨rfl, ta, _⟩
                have TA := Lib.hid (hS.out.trans ta)
                clear ta HSa hS e0
                obtain ⟨ad3, Y1, j1, y1, Y2, j2, y2, ead, _, g1, _, b2, _, hj2⟩ := (R8.out.soft TA.out (by decide)).at_ hlt
                injection ead with ead
                subst ead
                have HSb := Lib.hid (spoil_any (c := y2) b2 (by omega))
                clear b2
                go_wp2_with fail
                refine HSb.out.mono ?_
                rintro e wb ⟨rfl, tb, _⟩
                have TB := Lib.hid (TA.out.trans tb)
                clear tb HSb TA g1
                go_wp2
                go_roundw
                case rel => exact ⟨k + 1, by omega, by go_num, TB⟩
                case measure => simp [intOf]; omega
              · obtain rfl : k = n8 := by omega
                have S2 := hS
                clear hS
                obtain ⟨wl2, rfl⟩ : ∃ x : World, x = wr := ⟨_, rfl⟩
                go_wp2_with fail
                go_loopw [22] (fun v22 wr => ∃ k : Nat, k ≤ n9 ∧ v22 = .int .i64 k ∧ Hid (Soft w6.heap.size w9 wr)) (fun i _ => n9 - (intOf i).toNat)
                case atStart => exact ⟨0, Nat.zero_le _, rfl, S2⟩
                case round =>
                  clear S2
                  obtain ⟨k, hk, rfl, hS⟩ := hrel
                  by_cases hlt : k < n9
                  · obtain ⟨ad2, X1, m1, z1, X2, m2, z2, rfl, e0, e1, x1, x2, hm1, hm2⟩ := (R9.out.soft hS.out (by decide)).at_ hlt
                    have i0 : (0 : Int) ≤ (k : Int) := by omega
                    have i1 : (k : Int) < (n9 : Int) := by omega
                    have HSa := Lib.hid (spoil_any (c := z1) x1 (by omega))
                    clear x1 x2 e1
                    go_wp2_with fail
                    refine HSa.out.mono ?_
                    rintro e wa ⟨rfl, ta, _⟩
                    have TA := Lib.hid (hS.out.trans ta)
                    clear ta HSa hS e0
                    obtain ⟨ad3, Y1, j1, y1, Y2, j2, y2, ead, _, g1, _, b2, _, hj2⟩ := (R9.out.soft TA.out (by decide)).at_ hlt
                    injection ead with ead
                    subst ead
                    have HSb := Lib.hid (spoil_any (c := y2) b2 (by omega))
                    clear b2
                    go_wp2_with fail
                    refine HSb.out.mono ?_
                    rintro e wb ⟨rfl, tb, _⟩
                    have TB := Lib.hid (TA.out.trans tb)
                    clear tb HSb TA g1
                    go_wp2
                    go_roundw
                    case rel => exact ⟨k + 1, by omega, by go_num, TB⟩
                    case measure => simp [intOf]; omega
                  · obtain rfl : k = n9 := by omega
                    have S3 := hS
                    clear hS
                    obtain ⟨wl3, rfl⟩ : ∃ x : World, x = wr := ⟨_, rfl⟩
                    have I10 := Lib.hid (I6.out.new_ (S3.out.old K9.out (Nat.le_refl _)))
                    clear S3 K9 R7 R8 R9 I6
                    have hb3 : base ≤ wl3.heap.size := by obtain ⟨_, _, _, hkw, _⟩ := I10.out; exact Nat.le_trans hb hkw.size
                    have hil := imageL_length (seed := seed) OK1.out
                    have HX := Lib.hid (show Imaged seed (imageL seed out) ∧ ∀ l', Sorted l' → Okay l' → l'.length ≤ 100000 → imageL seed out = imageL seed l' → l' = out from ⟨⟨out, HSO.out, OK1.out, by omega, rfl⟩, fun l' h1 h2 h3 e => by
                      have h4 := rload_image (seed := seed) h1 h2 h3
                      rw [← e, rload_image HSO.out OK1.out (by omega)] at h4
                      exact (Option.some.inj h4).symm⟩)
                    have HIM := Lib.hid (show Calls Try.prog 52 #[.pointer (some ⟨mb, 0, none⟩)] wl3 (OwnRet wl3 (imageL seed out)) from by obtain ⟨F, hm, _⟩ := I10.out; exact image_any hm hb3 (by omega))
                    have HRI := Lib.hid (fun W (k : Keep No wl3 W) => (show Calls Try.prog 57 #[.int .u64 seed, .slice (some ad) out.length c1] W (OwnRet W (imageL seed out)) from by obtain ⟨F, _, _, _, hp, _⟩ := I10.out; exact rimage_any (hp.new_ k) hc1 OK1.out (by omega) (Nat.le_trans hb3 k.size)))
                    generalize imageL seed out = im at *
                    have him : im.length ≤ 1000000 := by omega
                    clear hil
                    go_wp2_with fail
                    refine HIM.out.mono ?_
                    rintro e wi ⟨Ai, ni, ci, rfl, oi⟩
                    obtain rfl := oi.num
                    have ki := oi.2
                    have HSi := Lib.hid (spoil_any (c := ci) (own_bw oi) (by omega))
                    have KI := Lib.hid ki
                    clear oi ki HIM
                    go_wp2_with fail
                    refine HSi.out.mono ?_
                    rintro e wj ⟨rfl, tj, _⟩
                    have KJ := Lib.hid (tj.old KI.out (Nat.le_refl _))
                    clear tj HSi KI
                    go_wp2_with fail
                    refine (HRI.out wj KJ.out).mono ?_
                    rintro e wg ⟨Ag, ng, cg, rfl, og⟩
                    obtain rfl := og.num
                    have hcg : im.length ≤ cg := by obtain ⟨A', c', e', hc'⟩ := own_slice og.1; injection e' with _ e1 e2; omega
                    have hbg : base ≤ wg.heap.size := Nat.le_trans hb3 (Nat.le_trans KJ.out.size og.2.size)
                    have HLD := Lib.hid (load_any (base := base) seed Ag _ cg im og.bytes hcg hbg)
                    have HG := Lib.hid (show _ ∧ _ from ⟨own_bw og, og.2⟩)
                    clear og HRI
                    go_wp2_with fail
                    refine HLD.out.mono ?_
                    rintro e wh ⟨kh, ⟨mb2, l2, F2, rfl, hm2, hF2, hl2, hbs2, hcl2⟩ | ⟨_, hno⟩⟩
                    · obtain rfl := HX.out.2 l2 hm2.sorted hm2.okay hl2 hbs2
                      have HSg := Lib.hid (spoil_any (c := cg) (HG.out.1.new_ kh) (by omega))
                      have HC := Lib.hid (show _ ∧ _ from ⟨hcl2, kh⟩)
                      clear hm2 hF2 hbs2 hcl2 kh HX HLD
                      go_wp2_with fail
                      refine HSg.out.mono ?_
                      rintro e wk ⟨rfl, tk, itk⟩
                      have HM2 := Lib.hid ((HC.out.1.spoil itk (fun b hb => (hb.of HG.out.1).2) (fun b hb => hb.not_mut)).mst)
                      have I11 := Lib.hid (I10.out.new_ (KJ.out.trans (tk.old (HG.out.2.trans HC.out.2 (fun _ x => x.elim)) (Nat.le_refl _)) (fun _ x => x.elim)))
                      clear tk itk HSg HC HG KJ I10
                      obtain ⟨F, hm, _, hkw, hp, _⟩ := I11.out
                      have hbk : base ≤ wk.heap.size := Nat.le_trans hb hkw.size
                      have HW1 := Lib.hid (whole_any hm hp hc1 hbk (by omega))
                      have HW2 := Lib.hid (fun W (k : Keep No wk W) => whole_any (HM2.out.new_ k) (hp.new_ k) hc1 (Nat.le_trans hbk k.size) (by omega))
                      have KW := Lib.hid hkw
                      clear hm hkw hp I11 HM2
                      go_wp2_with fail
                      refine HW1.out.mono ?_
                      rintro e wm ⟨rfl, km⟩
                      have KM := Lib.hid km
                      clear km HW1
                      go_wp2_with fail
                      refine (HW2.out wm KM.out).mono ?_
                      rintro e wn ⟨rfl, kn⟩
                      have KN := Lib.hid (KW.out.trans (KM.out.trans kn (fun _ x => x.elim)) (fun _ x => x.elim))
                      clear kn HW2 KM KW
                      go_wp2
                      go_ret
                      exact ⟨rfl, KN.out⟩
                    · exact absurd HX.out.1 hno
end Go.Proofs.Ytdmckjojeddaaaa
