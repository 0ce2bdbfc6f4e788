/- OrderShape: the walk. Conditions: none but that the arguments are read. -/
import Derived.Test.YtdmckjojeddaaaaW1
import Derived.Test.YtdmckjojeddaaaaP6
import Derived.Test.YtdmckjojeddaaaaD1
namespace Go.Proofs.Ytdmckjojeddaaaa
open Go.RowKit Go.Proofs.YtdmckjojeddaaaaKit Go.Proofs.YtdmckjojeddaaaaPlain

/-! ### Two maps of one seed -/
def Apart (F G : List Nat) : Prop := ∀ x ∈ F, x ∉ G
theorem Apart.symm {F G : List Nat} (h : Apart F G) : Apart G F := fun x hx hF => h x hF hx
structure Two (base : Nat) (w0 w : World) (a b : Nat) (seed : Int) (la lb : PairL) (F G : List Nat) : Prop where
  ma : MSt base w a seed la F
  mb : MSt base w b seed lb G
  apart : Apart F G
  fa : ∀ x ∈ F, w0.heap.size ≤ x
  fb : ∀ x ∈ G, w0.heap.size ≤ x
  keep : Keep No w0 w
section
variable {base : Nat} {w0 w w' : World} {a b : Nat} {seed : Int} {la lb la' lb' : PairL} {F G : List Nat}
theorem Two.symm (h : Two base w0 w a b seed la lb F G) : Two base w0 w b a seed lb la G F := ⟨h.mb, h.ma, h.apart.symm, h.fb, h.fa, h.keep⟩
theorem Two.new_ (h : Two base w0 w a b seed la lb F G) (hk : Keep No w w') : Two base w0 w' a b seed la lb F G := ⟨h.ma.new_ hk, h.mb.new_ hk, h.apart, h.fa, h.fb, h.keep.trans hk (fun _ x => x.elim)⟩
theorem Two.chA (h : Two base w0 w a b seed la lb F G) (hc : Changed base w a seed la' F w') : ∃ F', Two base w0 w' a b seed la' lb F' G ∧ Keep (In F) w w' := by
  obtain ⟨F', h1, h2, h3⟩ := hc
  refine ⟨F', ⟨h1, h.mb.keep h2 h.ma.mut (fun x hx hF => h.apart x hF hx), fun x hx hG => ?_, fun x hx => ?_, h.fb, h.keep.trans h2 (fun x hx => .inr (h.fa x hx))⟩, h2⟩
  · rcases h3 x hx with h4 | h4
    · exact h.apart x h4 hG
    · have := h.mb.lt hG; omega
  · rcases h3 x hx with h4 | h4
    · exact h.fa x h4
    · exact Nat.le_trans h.keep.size h4
theorem Two.chB (h : Two base w0 w a b seed la lb F G) (hc : Changed base w b seed lb' G w') : ∃ G', Two base w0 w' a b seed la lb' F G' ∧ Keep (In G) w w' := by
  obtain ⟨G', h1, h2⟩ := h.symm.chA hc
  exact ⟨G', h1.symm, h2⟩
theorem Two.made (hb : base ≤ w0.heap.size) (hk : Keep No w0 w) : Two base w0 ((w.alloc (.cells #[.bool true, .int .u64 seed, .pointer none] 106)).alloc (.cells #[.bool true, .int .u64 seed, .pointer none] 106)) w.heap.size (w.heap.size + 1) seed [] [] [w.heap.size] [w.heap.size + 1] := by
  have h1 : MSt base (w.alloc (.cells #[.bool true, .int .u64 seed, .pointer none] 106)) w.heap.size seed [] [w.heap.size] := MSt.made (Nat.le_trans hb hk.size)
  have hz : (w.alloc (.cells #[.bool true, .int .u64 seed, .pointer none] 106)).heap.size = w.heap.size + 1 := by simp
  have h2 : MSt base ((w.alloc (.cells #[.bool true, .int .u64 seed, .pointer none] 106)).alloc (.cells #[.bool true, .int .u64 seed, .pointer none] 106)) (w.heap.size + 1) seed [] [w.heap.size + 1] := by
    have := MSt.made (seed := seed) (base := base) (w := w.alloc (.cells #[.bool true, .int .u64 seed, .pointer none] 106)) (by rw [hz]; have := hk.size; omega)
    rwa [hz] at this
  have hs := hk.size
  refine ⟨h1.new_ ((Keep.refl No _).alloc _), h2, fun x hx hG => ?_, fun x hx => ?_, fun x hx => ?_, (hk.alloc _).alloc _⟩
  · simp at hx hG; omega
  · simp at hx; omega
  · simp at hx; omega
theorem Two.pairs {n : Nat} {A : Option Addr} {l : List Pair} {w1 : World} (h : Two base w0 w1 a b seed la lb F G) (hp : Pairs base w0 A n l) : Pairs base w1 A n l := hp.new_ h.keep
end
theorem rising_split {base : Nat} {w : World} {o : Option PairL} {e : Ending} {w' : World} (h : RisingRet base w o e w') : ∃ v b, e = .returned (.tuple #[v, .bool b]) ∧ b = o.isSome ∧ Keep No w w' := by
  cases o with
  | none => exact ⟨_, _, h.1, rfl, h.2⟩
  | some out =>
    obtain ⟨A, c, e, _, ho, _⟩ := h
    exact ⟨_, _, e, rfl, ho.keepTo⟩
theorem risingL_sorted {l out : PairL} (h : risingL l = some out) : Sorted out := by
  rw [(risingL_some h).2.1]
  exact putAll_sorted List.Pairwise.nil

set_option maxHeartbeats 4000000 in
set_option maxRecDepth 100000 in
theorem orderShape_walk {base : Nat} (seed : Int) (Lp : Option Addr) (m d : Nat) (l : PairL) (Op : Option Addr) (on od : Nat) (ol : PairL) (w : World) (hl : Pairs base w Lp m l) (ho : Pairs base w Op on ol) (hb : base ≤ w.heap.size) :
    Calls Try.prog 11 #[.int .u64 seed, .slice Lp m d, .slice Op on od] w fun e w' => e = .returned (.bool true) ∧ Keep No w w' := by
  have H0 := Lib.hid (rising_any Lp m d l w hl hb)
  have H1 := Lib.hid (fun W (h : Keep No w W) => rising_any Op on od ol W (ho.new_ h) (Nat.le_trans hb h.size))
  have HL := Lib.hid (show _ ∧ _ from ⟨hl, ho⟩)
  clear hl ho
  by_cases hboth : (risingL l).isSome = true ∧ (risingL ol).isSome = true
  · obtain ⟨h1, h2⟩ := hboth
    obtain ⟨out, hr⟩ := Option.isSome_iff_exists.1 h1
    obtain ⟨more, hr2⟩ := Option.isSome_iff_exists.1 h2
    rw [hr] at H0
    rw [hr2] at H1
    obtain ⟨hl4, hout, hok⟩ := risingL_some hr
    obtain ⟨hl5, hmore, hok2⟩ := risingL_some hr2
    have HR := Lib.hid (show _ ∧ _ ∧ _ ∧ _ from ⟨hout, hok, risingL_sorted hr, risingL_sorted hr2⟩)
    clear hr hr2 h1 h2 hout hok hmore hok2
    go_enter Try.func11, Try.ntmps11
    go_wp2_with fail
    refine H0.out.mono ?_
    rintro e w1 ⟨A1, c1, rfl, hc1, ho1, hok1, hl1⟩
    have K1 := Lib.hid ho1.keepTo
    have P1 := Lib.hid (show _ ∧ _ from ⟨OwnP.pairs ho1, hok1⟩)
    clear ho1 hok1 H0
    go_wp2_with fail
    refine (H1.out w1 K1.out).mono ?_
    rintro e w2 ⟨A2, c2, rfl, hc2, ho2, hok2, hl2⟩
    have K2 := Lib.hid (K1.out.trans ho2.keepTo (fun _ x => x.elim))
    have P2 := Lib.hid (show _ ∧ _ ∧ _ ∧ _ from ⟨P1.out.1.new_ ho2.keepTo, P1.out.2, OwnP.pairs ho2, hok2⟩)
    clear ho2 hok2 H1 P1 K1
    go_wp2_with (go_at_call 20; refine (new_any seed _).mono ?_; rintro e w' ⟨rfl, rfl⟩)
    have T0 := Lib.hid (Two.made (base := base) (w0 := w2) (seed := seed) (Nat.le_trans hb K2.out.size) (Keep.refl No w2))
    obtain ⟨w3, hw3⟩ : ∃ x, x = ((w2.alloc (.cells #[.bool true, .int .u64 seed, .pointer none] 106)).alloc (.cells #[.bool true, .int .u64 seed, .pointer none] 106)) := ⟨_, rfl⟩
    rw [← hw3] at T0 ⊢
    clear hw3
    have hb2 : base ≤ w2.heap.size := Nat.le_trans hb K2.out.size
    have hP := lput_any (back := false) (d := d) T0.out.ma (HL.out.1.new_ (K2.out.trans T0.out.keep (fun _ x => x.elim))) HR.out.2.1 (by simp; omega) (Nat.le_trans hb2 T0.out.keep.size)
    rw [if_neg (by decide), ← HR.out.1] at hP
    refine hP.mono ?_
    rintro e w4 ⟨rfl, hc4⟩
    obtain ⟨F4, t4, _⟩ := T0.out.chA hc4
    have T4 := Lib.hid t4
    clear hc4 t4 hP T0
    have hP := lput_any (back := true) (d := c2) T4.out.mb (P2.out.2.2.1.new_ T4.out.keep) P2.out.2.2.2 (by simp; omega) (Nat.le_trans hb2 T4.out.keep.size)
    rw [if_pos rfl] at hP
    have HP := Lib.hid hP
    clear hP
    go_wp2_with fail
    refine HP.out.mono ?_
    rintro e w5 ⟨rfl, hc5⟩
    obtain ⟨G5, t5, _⟩ := T4.out.chB hc5
    have T5 := Lib.hid t5
    clear hc5 t5 HP T4
    have hpl1 := putAll_length [] more.reverse
    have hP := lput_any (back := true) (d := c1) T5.out.mb (P2.out.1.new_ T5.out.keep) P2.out.2.1 (by simp at hpl1; omega) (Nat.le_trans hb2 T5.out.keep.size)
    rw [if_pos rfl] at hP
    have HP := Lib.hid hP
    clear hP
    go_wp2_with fail
    refine HP.out.mono ?_
    rintro e w6 ⟨rfl, hc6⟩
    obtain ⟨G6, t6, _⟩ := T5.out.chB hc6
    have T6 := Lib.hid t6
    clear hc6 t6 HP T5
    have hpl2 := putAll_length (putAll [] more.reverse) out.reverse
    have hM0 := Lib.hid (mixed_start HR.out.2.2.1 HR.out.2.2.2)
    simp only [List.length_reverse, List.length_nil] at hpl1 hpl2
    have hcl0 : (putAll (putAll [] more.reverse) out.reverse).length ≤ out.length + more.length := by omega
    generalize putAll (putAll [] more.reverse) out.reverse = cur0 at *
    clear hpl1 hpl2
    generalize w2.heap.size + 1 = bb at *
    generalize haa : w2.heap.size = aa at *
    go_wp2_with fail
    go_loopw [13] (fun v13 wr => ∃ (k : Nat) (cur : PairL) (G : List Nat), k ≤ more.length ∧ v13 = .int .i64 k ∧ cur.length ≤ out.length + more.length ∧ Hid (Mixed out more cur k) ∧ Hid (Two base w2 wr aa bb seed out cur F4 G)) (fun i _ => more.length - (intOf i).toNat)
    case atStart => exact ⟨0, cur0, G6, Nat.zero_le _, rfl, hcl0, hM0, T6⟩
    case round =>
      clear T6 hM0 hcl0
      obtain ⟨k, cur, G, hk, rfl, hcl, hM, hT⟩ := hrel
      by_cases hlt : k < more.length
      · obtain ⟨ad, A3, c3, A4, c4, rfl, him, e0, e1, b1, b2⟩ := (P2.out.2.2.1.new_ hT.out.keep).at_ hlt
        have hkv := P2.out.2.2.2 _ (List.getElem_mem hlt)
        have h64 := hkv.2.1
        have hab := him.lt
        have i0 : (0 : Int) ≤ (k : Int) := by omega
        have i1 : (k : Int) < (more.length : Int) := by omega
        have HH := rhas_any A1 A3 _ c1 _ c3 out more[k].1 wr (P2.out.1.new_ hT.out.keep) b1 P2.out.2.1.small (by omega) (by omega)
        have hdl := mixed_length (i := k) hcl more[k].1
        have HB := Lib.hid b1
        clear him e1 b1 b2 hkv
        cases hh : hasL more[k].1 out with
        | true =>
          have hM2 := Lib.hid (mixed_skip hM.out hlt hh)
          rw [hh] at HH
          have HH2 := Lib.hid HH
          clear HH hM hh HB
          generalize more[k] = p at *
          go_wp2_with fail
          refine HH2.out.mono ?_
          rintro e w7 ⟨rfl, q, rfl⟩
          have hT2 := Lib.hid (hT.out.new_ ((Keep.refl No wr).drewN q))
          clear HH2 hT
          go_wp2
          go_roundw
          case rel => exact ⟨k + 1, cur, G, by omega, by go_num, hcl, hM2, hT2⟩
          case measure => simp [intOf]; omega
        | false =>
          obtain ⟨hin, hM1⟩ := mixed_drop HR.out.2.2.1 HR.out.2.2.2 hM.out hlt hh
          have hM2 := Lib.hid hM1
          have HIN := Lib.hid hin
          rw [hh] at HH
          have HH2 := Lib.hid HH
          clear HH hM hh hM1 hin
          generalize more[k] = p at *
          go_wp2_with fail
          refine HH2.out.mono ?_
          rintro e w7 ⟨rfl, q, rfl⟩
          have hT2 := Lib.hid (hT.out.new_ ((Keep.refl No wr).drewN q))
          have HD := Lib.hid (mdrop_any (c := c3) hT2.out.mb (HB.out.drewN q) (by omega))
          clear HH2 hT HB
          go_wp2_with fail
          refine HD.out.mono ?_
          rintro e w8 hd
          obtain ⟨rfl, hc⟩ := hd.2 HIN.out
          obtain ⟨G8, t8, _⟩ := hT2.out.chB hc
          have T8 := Lib.hid t8
          clear hd hc t8 HD hT2
          go_wp2
          go_roundw
          case rel => exact ⟨k + 1, _, G8, by omega, by go_num, hdl, hM2, T8⟩
          case measure => simp [intOf]; omega
      · obtain rfl : k = more.length := by omega
        obtain rfl := mixed_end HR.out.2.2.1 hM.out
        have KF := Lib.hid (K2.out.trans hT.out.keep (fun _ x => x.elim))
        have PO := Lib.hid (P2.out.1.new_ hT.out.keep)
        have OK := Lib.hid P2.out.2.1
        have hbr : base ≤ wr.heap.size := Nat.le_trans hb KF.out.size
        have hal : cur.length ≤ 400 := hl1
        have HIA := Lib.hid (fun W (h : Keep No wr W) => image_any (hT.out.ma.new_ h) (Nat.le_trans hbr h.size) (by omega))
        have HIB := Lib.hid (fun W (h : Keep No wr W) => image_any (hT.out.mb.new_ h) (Nat.le_trans hbr h.size) (by omega))
        have HDA := Lib.hid (fun W (h : Keep No wr W) => mdigest_any (hT.out.ma.new_ h))
        have HDB := Lib.hid (fun W (h : Keep No wr W) => mdigest_any (hT.out.mb.new_ h))
        have HNA := Lib.hid (fun W (h : Keep No wr W) => nodes_any (hT.out.ma.new_ h) (Nat.le_trans hbr h.size) (by omega))
        have HNB := Lib.hid (fun W (h : Keep No wr W) => nodes_any (hT.out.mb.new_ h) (Nat.le_trans hbr h.size) (by omega))
        have HWA := Lib.hid (fun W (h : Keep No wr W) => whole_any (hT.out.ma.new_ h) (PO.out.new_ h) hc1 (Nat.le_trans hbr h.size) (by omega))
        have HWB := Lib.hid (fun W (h : Keep No wr W) => whole_any (hT.out.mb.new_ h) (PO.out.new_ h) hc1 (Nat.le_trans hbr h.size) (by omega))
        have hil := imageL_length (seed := seed) OK.out
        have HNL := Lib.hid (nodesL_length seed cur)
        have HNO := Lib.hid (nodesL_okay (seed := seed) OK.out)
        clear hT hM P2 HR HL
        generalize imageL seed cur = im at *
        generalize digest seed cur = dg at *
        generalize nodesL seed cur = N at *
        go_wp2_with fail
        refine (HIA.out _ (Keep.refl _ _)).mono ?_
        rintro e w7 ⟨A7, n7, c7, rfl, O7⟩
        have G7 := Lib.hid O7
        clear O7 HIA
        go_wp2_with fail
        refine (HIB.out _ G7.out.kp).mono ?_
        rintro e w8 ⟨A8, n8, c8, rfl, O8⟩
        have G8 := Lib.hid O8
        have K8 := Lib.hid (G7.out.kp.trans O8.kp (fun _ x => x.elim))
        have hn7 := G7.out.num
        have hn8 := O8.num
        subst hn7 hn8
        have HS := same_any (b1 := base) (b2 := base) A7 A8 _ c7 _ c8 im im w8 ((G7.out.new_ O8.kp).bytes) O8.bytes (by omega) (by omega)
        rw [decide_eq_true rfl] at HS
        have HS1 := Lib.hid HS
        clear O8 HIB HS G7 G8
        go_wp2_with fail
        refine HS1.out.mono ?_
        rintro e w9 ⟨rfl, q, rfl⟩
        have K9 := Lib.hid (K8.out.drewN q)
        clear HS1
        go_wp2_with (first
          | (go_at_call_of 26 (Value.pointer (some ⟨aa, 0, none⟩)); refine (HDA.out _ K9.out).mono ?_; rintro e w' ⟨rfl, rfl⟩)
          | (go_at_call_of 26 (Value.pointer (some ⟨bb, 0, none⟩)); refine (HDB.out _ K9.out).mono ?_; rintro e w' ⟨rfl, rfl⟩))
        refine (HNA.out _ K9.out).mono ?_
        rintro e wA ⟨A10, c10, rfl, hc10, o10, k10⟩
        have K10 := Lib.hid (K9.out.trans k10 (fun _ x => x.elim))
        have N10 := Lib.hid (show NodesAt base wA A10 N.length N from OwnR.recs o10 rfl)
        clear o10 k10 HNA HDA HDB
        go_wp2_with fail
        refine (HNB.out _ K10.out).mono ?_
        rintro e wB ⟨A11, c11, rfl, hc11, o11, k11⟩
        have K11 := Lib.hid (K10.out.trans k11 (fun _ x => x.elim))
        have HSN := Lib.hid (samenodes_any (base := base) A10 A11 _ c10 _ c11 N wB (NodesAt.new_ N10.out k11) (OwnR.recs o11 rfl) HNO.out (by rw [HNL.out]; omega))
        clear o11 k11 HNB N10
        go_wp2_with fail
        refine HSN.out.mono ?_
        rintro e wC ⟨rfl, k12⟩
        have K12 := Lib.hid (K11.out.trans k12 (fun _ x => x.elim))
        clear k12 HSN
        go_wp2_with fail
        refine (HWA.out _ K12.out).mono ?_
        rintro e wD ⟨rfl, k13⟩
        have K13 := Lib.hid (K12.out.trans k13 (fun _ x => x.elim))
        clear k13 HWA
        go_wp2_with fail
        refine (HWB.out _ K13.out).mono ?_
        rintro e wE ⟨rfl, k14⟩
        have K14 := Lib.hid (KF.out.trans (K13.out.trans k14 (fun _ x => x.elim)) (fun _ x => x.elim))
        clear k14 HWB
        go_wp2
        go_ret
        exact ⟨rfl, K14.out⟩
  · have hf : ((risingL l).isSome && (risingL ol).isSome) = false := by
      cases h1 : (risingL l).isSome <;> cases h2 : (risingL ol).isSome <;> simp_all
    go_enter Try.func11, Try.ntmps11
    go_wp2_with fail
    refine H0.out.mono ?_
    rintro e w1 h
    obtain ⟨v1, b1, rfl, hb1, hk1⟩ := rising_split h
    have K1 := Lib.hid hk1
    have HB1 := Lib.hid hb1
    clear h hk1 hb1
    go_wp2_with fail
    refine (H1.out w1 K1.out).mono ?_
    rintro e w2 h
    obtain ⟨v2, b2, rfl, hb2, hk2⟩ := rising_split h
    have K2 := Lib.hid (K1.out.trans hk2 (fun _ x => x.elim))
    clear h hk2
    rw [← HB1.out, ← hb2] at hf
    clear HB1 hb2 hboth
    cases b1 with
    | false =>
      go_wp2_with fail
      go_ret
      exact ⟨rfl, K2.out⟩
    | true =>
      cases b2 with
      | true => cases hf
      | false =>
        go_wp2_with fail
        go_ret
        exact ⟨rfl, K2.out⟩
end Go.Proofs.Ytdmckjojeddaaaa
