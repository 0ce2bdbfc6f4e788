/- OrderHeights: the walk. Conditions: none but that the arguments are read. -/
import Derived.Test.YtdmckjojeddaaaaU3
import Derived.Test.YtdmckjojeddaaaaP6
import Derived.Deep.QuietTactic
namespace Go.Proofs.Ytdmckjojeddaaaa
open Go.RowKit Go.Proofs.YtdmckjojeddaaaaKit Go.Proofs.YtdmckjojeddaaaaPlain

theorem NodeR.keep {base : Nat} {w w1 : World} {x : NodeV} {cs : List Value} {S : Nat → Prop} (h : NodeR base w x cs) (hk : Keep S w w1) (hs : ∀ b, S b → Mut base w b) : NodeR base w1 x cs := by
  obtain ⟨A, c, B, d, e, h1, h2, h3⟩ := h
  exact ⟨A, c, B, d, e, h1.keep hk hs, h2.keep hk hs, h3⟩
abbrev NodesAt (base : Nat) := Recs base 44 (NodeR base) 6
theorem NodesAt.keep {base : Nat} {w w1 : World} {A : Option Addr} {n : Nat} {L : List NodeV} {S : Nat → Prop} (h : NodesAt base w A n L) (hk : Keep S w w1) (hs : ∀ b, S b → Mut base w b) : NodesAt base w1 A n L := Recs.keep h hk hs (fun _ _ hx => hx.keep hk hs)
theorem NodesAt.new_ {base : Nat} {w w1 : World} {A : Option Addr} {n : Nat} {L : List NodeV} (h : NodesAt base w A n L) (hk : Keep No w w1) : NodesAt base w1 A n L := NodesAt.keep h hk (fun _ x => x.elim)
theorem NodesAt.at_ {base : Nat} {w : World} {A : Option Addr} {n : Nat} {L : List NodeV} (h : NodesAt base w A n L) {k : Nat} {x : NodeV} (hk : L[k]? = some x) : ∃ ad A1 c1 A2 c2, A = some ad ∧ Imm base 44 w ad.block ∧
    w.cell? (ad.add (k * 6)) = some (.slice A1 x.key.length c1) ∧ w.cell? ⟨(ad.add (k * 6)).block, (ad.add (k * 6)).off + 1, none⟩ = some (.slice A2 x.value.length c2) ∧
    w.cell? ⟨(ad.add (k * 6)).block, (ad.add (k * 6)).off + 2, none⟩ = some (.int .u64 x.digest) ∧ w.cell? ⟨(ad.add (k * 6)).block, (ad.add (k * 6)).off + 3, none⟩ = some (.int .i64 (x.size : Nat)) ∧
    w.cell? ⟨(ad.add (k * 6)).block, (ad.add (k * 6)).off + 4, none⟩ = some (.int .i64 x.left) ∧ w.cell? ⟨(ad.add (k * 6)).block, (ad.add (k * 6)).off + 5, none⟩ = some (.int .i64 x.right) ∧
    Bytes base w A1 x.key.length x.key ∧ Bytes base w A2 x.value.length x.value := by
  have hlt := (List.getElem?_eq_some_iff.1 hk).1
  have hx := (List.getElem?_eq_some_iff.1 hk).2
  obtain ⟨ad, cs, e, hb, ⟨A1, c1, A2, c2, rfl, h1, h2, _, _⟩, _, hc⟩ := Recs.at_ (by omega) h hlt
  rw [hx] at h1 h2 hc
  exact ⟨ad, A1, c1, A2, c2, e, hb, hc 0 _ rfl, by rw [add_field _ _ 1 (by omega)]; exact hc 1 _ rfl, by rw [add_field _ _ 2 (by omega)]; exact hc 2 _ rfl, by rw [add_field _ _ 3 (by omega)]; exact hc 3 _ rfl,
    by rw [add_field _ _ 4 (by omega)]; exact hc 4 _ rfl, by rw [add_field _ _ 5 (by omega)]; exact hc 5 _ rfl, h1.1, h2.1⟩

def InnerRel (w : World) (ls rs : Nat) (ld rd : Int) (v11 v12 v13 v15 : Value) (wr : World) : Prop :=
  ((v15 = .int .i64 0 ∧ v11 = .int .u64 0 ∧ v12 = .int .u64 0 ∧ v13 = .int .i64 1) ∨ (v15 = .int .i64 1 ∧ v11 = .int .u64 ld ∧ v12 = .int .u64 0 ∧ v13 = .int .i64 (1 + (ls : Int))) ∨
    (v15 = .int .i64 2 ∧ v11 = .int .u64 ld ∧ v12 = .int .u64 rd ∧ v13 = .int .i64 (1 + (ls : Int) + (rs : Int)))) ∧ Keep No w wr
set_option maxHeartbeats 2000000 in
set_option maxRecDepth 100000 in
theorem orderHeights_walk {base : Nat} (seed : Int) (Lp : Option Addr) (m d : Nat) (l : PairL) (w : World) (hl : Pairs base w Lp m l) (hb : base ≤ w.heap.size) :
    Calls Try.prog 4 #[.int .u64 seed, .slice Lp m d] w fun e w' => e = .returned (.bool true) ∧ Keep No w w' := by
  have H0 := Lib.hid (rising_any Lp m d l w hl hb)
  have HL := Lib.hid hl
  clear hl
  cases hr : risingL l with
  | none =>
    rw [hr] at H0
    clear hr
    go_enter Try.func4, Try.ntmps4
    go_wp2_with fail
    refine H0.out.mono ?_
    rintro e w1 ⟨rfl, hk⟩
    have HK := Lib.hid hk
    clear hk
    go_wp2
    go_ret
    exact ⟨rfl, HK.out⟩
  | some out =>
    rw [hr] at H0
    obtain ⟨hl4, hout, hok⟩ := risingL_some hr
    have HR := Lib.hid (show _ ∧ _ from ⟨hout, hok⟩)
    have hl5 : out.length ≤ l.length := by have := putAll_length [] l; rw [← hout] at this; simpa using this
    clear hr hout hok
    go_enter Try.func4, Try.ntmps4
    go_wp2_with fail
    refine H0.out.mono ?_
    rintro e w1 ⟨A1, c1, rfl, hc1, ho1, hok1, hl1⟩
    have hk1 := ho1.keepTo
    have H1 := Lib.hid (show _ ∧ _ from ⟨hk1, hok1⟩)
    clear hk1 hok1 ho1 H0
    go_wp2_with fail
    refine (new_any seed _).mono ?_
    rintro e w2 ⟨rfl, rfl⟩
    have k2 := H1.out.1.alloc (.cells #[.bool true, .int .u64 seed, .pointer none] 106)
    have M2 : MSt base _ w1.heap.size seed [] [w1.heap.size] := MSt.made (seed := seed) (Nat.le_trans hb H1.out.1.size)
    have hP := lput_any (back := false) (d := d) M2 (HL.out.new_ k2) HR.out.2 (by simp; omega) (Nat.le_trans hb k2.size)
    rw [if_neg (by decide), ← HR.out.1] at hP
    have HP := Lib.hid hP
    have K2 := Lib.hid k2
    clear hP k2 M2
    go_wp2_with fail
    refine HP.out.mono ?_
    rintro e w3 ⟨rfl, F3, hM3, hk3, hF3⟩
    have k3 : Keep No w w3 := K2.out.trans hk3 (fun x hx => .inr (by simp [In] at hx; subst hx; exact H1.out.1.size))
    have hN := nodes_any hM3 (Nat.le_trans hb k3.size) (by omega)
    have HN := Lib.hid hN
    have H3 := Lib.hid (show _ ∧ _ from ⟨hM3, k3⟩)
    clear hM3 hk3 hF3 k3 hN HP K2
    go_wp2_with fail
    refine HN.out.mono ?_
    rintro e w4 ⟨A4, c4, rfl, hc4, ho4, hk4⟩
    have hM4 := H3.out.1.new_ hk4
    have hR4 : NodesAt base w4 A4 (nodesL seed out).length (nodesL seed out) := ho4.recs rfl
    have hlen := nodesL_length seed out
    obtain ⟨t, _, hwf, htl, _⟩ := id hM4
    have hNok : ∀ j x, (nodesL seed out)[j]? = some x → NodeOk (nodesL seed out) seed j x := by subst htl; exact fun j x h => nodesL_ok hwf h
    have hNm : ∀ x ∈ nodesL seed out, keyOk x.key x.value := by have := hM4.okay; subst htl; exact nodesL_mem hwf (fun p => keyOk p.1 p.2) this
    have hD : ∀ x, (nodesL seed out)[0]? = some x → x.size = out.length ∧ digest seed out = x.digest := fun x h => size_head h
    rw [hlen] at hR4
    rw [hlen]
    have H4 := Lib.hid (show _ ∧ _ ∧ _ ∧ _ ∧ _ ∧ _ ∧ _ from ⟨hM4, hR4, hNok, (fun x hx => ⟨hNm x hx, nodesL_small x hx⟩ : ∀ x ∈ nodesL seed out, keyOk x.key x.value ∧ x.size ≤ out.length), hD, hlen, H3.out.2.trans hk4 (fun _ x => x.elim)⟩)
    clear hM4 hR4 hNok hNm hD hlen hc4 ho4 hk4 hwf htl H3 HN H1 HR
    generalize nodesL seed out = N at *
    obtain ⟨n, hn⟩ : ∃ n, out.length = n := ⟨_, rfl⟩
    have HNn := Lib.hid hn
    rw [hn] at H4 hl1 hl5 hc1 ⊢
    clear hn
    go_wp2_with fail
    go_loopw [9] (fun v9 wr => ∃ k : Nat, k ≤ n ∧ v9 = .int .i64 k ∧ Keep No w4 wr) (fun i _ => n - (intOf i).toNat)
    case atStart => exact ⟨0, Nat.zero_le _, rfl, Keep.refl _ _⟩
    case round =>
      obtain ⟨k, hk, rfl, hkr⟩ := hrel
      by_cases hlt : k < n
      · obtain ⟨x, hx⟩ : ∃ x, N[k]? = some x := ⟨_, List.getElem?_eq_getElem (by rw [H4.out.2.2.2.2.2.1]; exact hlt)⟩
        have hxok := H4.out.2.2.1 k x hx
        have hxm := H4.out.2.2.2.1 x (List.mem_of_getElem? hx)
        obtain ⟨ad, A5, c5, A6, c6, rfl, him, e0, e1, e2, e3, e4, e5, b1, b2⟩ := (H4.out.2.1.new_ hkr).at_ hx
        have HX := Lib.hid (show _ ∧ _ ∧ _ ∧ _ ∧ _ ∧ _ from ⟨hx, hxok, hxm, b1, b2, hkr⟩)
        clear hx hxok hxm b1 b2 hkr him
        obtain ⟨wo, rfl⟩ : ∃ wo : World, wo = wr := ⟨_, rfl⟩
        go_wp2_with fail
        obtain ⟨hx, hxok, hxm, b1, b2, hkr⟩ := HX.out
        clear HX
        have K0 : Keep No wo ((wo.alloc (.cells #[.slice A5 x.key.length c5, .slice A6 x.value.length c6, .int .u64 x.digest, .int .i64 x.size, .int .i64 x.left, .int .i64 x.right] 44)).alloc (.cells #[.int .i64 x.left, .int .i64 x.right] 3)) := ((Keep.refl No wo).alloc _).alloc _
        have X0 : Blk ((wo.alloc (.cells #[.slice A5 x.key.length c5, .slice A6 x.value.length c6, .int .u64 x.digest, .int .i64 x.size, .int .i64 x.left, .int .i64 x.right] 44)).alloc (.cells #[.int .i64 x.left, .int .i64 x.right] 3)) wo.heap.size 44 #[.slice A5 x.key.length c5, .slice A6 x.value.length c6, .int .u64 x.digest, .int .i64 x.size, .int .i64 x.left, .int .i64 x.right] := (Blk.new wo _ _).alloc _
        have Y0 : Blk ((wo.alloc (.cells #[.slice A5 x.key.length c5, .slice A6 x.value.length c6, .int .u64 x.digest, .int .i64 x.size, .int .i64 x.left, .int .i64 x.right] 44)).alloc (.cells #[.int .i64 x.left, .int .i64 x.right] 3)) (wo.heap.size + 1) 3 #[.int .i64 x.left, .int .i64 x.right] := by
          have := Blk.new (wo.alloc (.cells #[.slice A5 x.key.length c5, .slice A6 x.value.length c6, .int .u64 x.digest, .int .i64 x.size, .int .i64 x.left, .int .i64 x.right] 44)) 3 #[.int .i64 x.left, .int .i64 x.right]
          rwa [show (wo.alloc (.cells #[.slice A5 x.key.length c5, .slice A6 x.value.length c6, .int .u64 x.digest, .int .i64 x.size, .int .i64 x.left, .int .i64 x.right] 44)).heap.size = wo.heap.size + 1 from by simp] at this
        generalize ((wo.alloc (.cells #[.slice A5 x.key.length c5, .slice A6 x.value.length c6, .int .u64 x.digest, .int .i64 x.size, .int .i64 x.left, .int .i64 x.right] 44)).alloc (.cells #[.int .i64 x.left, .int .i64 x.right] 3)) = W0 at *
        generalize wo.heap.size + 1 = bb at *
        generalize wo.heap.size = xb at *
        obtain ⟨ls, rs, ld, rd, hs1, hs2, hc1, hc2⟩ := hxok
        have hls : ls ≤ 400 ∧ rs ≤ 400 := by have := hxm.2; omega
        have HI := Lib.hid (show _ ∧ _ ∧ _ ∧ _ ∧ _ ∧ _ ∧ _ ∧ _ ∧ _ ∧ _ from ⟨hxm, b1.new_ K0, b2.new_ K0, hkr.trans K0 (fun _ x => x.elim), X0, Y0, hs1, hs2, hc1, hc2⟩)
        clear hx hxm b1 b2 hkr K0 X0 Y0 hs1 hs2 hc1 hc2 e0 e1 e2 e3 e4 e5
        go_loopw [11, 12, 13, 15] (InnerRel W0 ls rs ld rd) (fun _ _ _ v _ => 2 - (intOf v).toNat)
        case atStart => exact ⟨.inl ⟨rfl, rfl, rfl, rfl⟩, Keep.refl _ _⟩
        case round =>
          obtain ⟨hj, hki⟩ := hrel
          have X1 := HI.out.2.2.2.2.1.keep hki (fun x => x)
          have Y1 := HI.out.2.2.2.2.2.1.keep hki (fun x => x)
          rcases hj with ⟨rfl, rfl, rfl, rfl⟩ | ⟨rfl, rfl, rfl, rfl⟩ | ⟨rfl, rfl, rfl, rfl⟩
          · rcases HI.out.2.2.2.2.2.2.2.2.1 with ⟨hc, hcs, hcd⟩ | ⟨mm, y, hc, hkm, hy, hys, hyd, hyl, hya⟩
            · rw [hc] at Y1
              have y0 : wr.cell? ⟨bb, 0, none⟩ = some (.int .i64 (-1)) := Y1.cell 0
              have HE := Lib.hid (show _ ∧ _ ∧ _ from ⟨hcs, hcd, hki⟩)
              clear hc hcs hcd hki X1 Y1
              go_wp2
              go_roundw
              case rel => exact ⟨.inr (.inl ⟨rfl, by rw [HE.out.2.1], rfl, by rw [HE.out.1]; rfl⟩), HE.out.2.2⟩
              case measure => simp [intOf]
            · rw [hc] at Y1
              have y0 : wr.cell? ⟨bb, 0, none⟩ = some (.int .i64 (mm : Int)) := Y1.cell 0
              have hmn : mm < n := by have := (List.getElem?_eq_some_iff.1 hy).1; have := H4.out.2.2.2.2.2.1; omega
              have hym := H4.out.2.2.2.1 y (List.mem_of_getElem? hy)
              obtain ⟨ad', A7, c7, A8, c8, ead, him', g0, g1, g2, g3, g4, g5, b7, b8⟩ := (H4.out.2.1.new_ (HI.out.2.2.2.1.trans hki (fun _ x => x.elim))).at_ hy
              injection ead with ead
              subst ead
              have KY : Keep No wr (wr.alloc (.cells #[.slice A7 y.key.length c7, .slice A8 y.value.length c8, .int .u64 y.digest, .int .i64 y.size, .int .i64 y.left, .int .i64 y.right] 44)) := (Keep.refl No wr).alloc _
              have YB : Blk (wr.alloc (.cells #[.slice A7 y.key.length c7, .slice A8 y.value.length c8, .int .u64 y.digest, .int .i64 y.size, .int .i64 y.left, .int .i64 y.right] 44)) wr.heap.size 44 #[.slice A7 y.key.length c7, .slice A8 y.value.length c8, .int .u64 y.digest, .int .i64 y.size, .int .i64 y.left, .int .i64 y.right] := Blk.new _ _ _
              have q1 : (((mm : Nat) : Int) == -1) = false := beq_eq_false_iff_ne.2 (by omega)
              have q2 : decide (mm ≤ k) = false := decide_eq_false (by omega)
              have q3 : decide (n ≤ mm) = false := decide_eq_false (by omega)
              have hya2 := above_iff.1 hya
              have HE := Lib.hid (show _ ∧ _ ∧ _ ∧ _ ∧ _ ∧ _ ∧ _ ∧ _ ∧ _ ∧ _ ∧ _ from ⟨hys, hyd, hki, hym, b7, b8, KY, YB, X1, hyl, hya2⟩)
              have hysz : (0 : Int) ≤ (y.size : Int) ∧ (y.size : Int) ≤ 400 := by have := hym.2; omega
              clear hc hys hyd hki hym b7 b8 KY YB X1 Y1 hyl hya hya2 him' hy
              go_wp2_with fail
              obtain ⟨hys, hyd, hki, hym, b7, b8, KY, YB, X1, hyl, hya⟩ := HE.out
              generalize (wr.alloc (.cells #[.slice A7 y.key.length c7, .slice A8 y.value.length c8, .int .u64 y.digest, .int .i64 y.size, .int .i64 y.left, .int .i64 y.right] 44)) = wy at *
              generalize wr.heap.size = yb at *
              have X2 := X1.keep KY (fun x => x)
              have by7 := b7.new_ KY
              have by8 := HI.out.2.1.new_ (hki.trans KY (fun _ x => x.elim))
              have x0 := X2.cell 0
              have yc0 := YB.cell 0
              have yc2 := YB.cell 2
              have yc3 := YB.cell 3
              simp only [List.getElem?_toArray, List.getElem?_cons_zero, List.getElem?_cons_succ] at x0 yc0 yc2 yc3
              have hx64 := HI.out.1.1.2.1
              have hy64 := hym.1.2.1
              have HC1 := Lib.hid (fun q => rcoin_any seed 3 A5 _ c5 x.key (wy.drewN q) (by8.drewN q) (by omega))
              have HC2 := Lib.hid (fun q => rcoin_any seed 3 A7 _ c7 y.key (wy.drewN q) (by7.drewN q) (by omega))
              have HD1 := Lib.hid (fun q => rcompare_any A5 A7 _ c5 _ c7 x.key y.key (wy.drewN q) (by8.drewN q) (by7.drewN q) (by omega) (by omega))
              have HD2 := Lib.hid (fun q => rcompare_any A7 A5 _ c7 _ c5 y.key x.key (wy.drewN q) (by7.drewN q) (by8.drewN q) (by omega) (by omega))
              have hneg : rcmp y.key x.key < 0 := rcmp_neg.2 hyl
              unfold height at hya
              generalize coin seed 3 x.key = ca at *
              generalize coin seed 3 y.key = cb at *
              generalize rcmp y.key x.key = ryx at *
              have HF := Lib.hid (show _ ∧ _ ∧ _ from ⟨hys, hyd, hki.trans KY (fun _ x => x.elim)⟩)
              clear hys hyd hki hym b7 b8 KY YB X1 X2 by7 by8 HE
              rcases hya with hya | ⟨hya, hlx⟩
              · have d1 : decide (ca < cb) = false := by simp; omega
                have d2 : (ca == cb) = false := by simp; omega
                clear hya
                go_quiet ((first
                  | (go_at_call_of 23 (Value.slice A5 x.key.length c5); first | exact quiet_drawn (HC1.out _) | exact quiet_add_left (HC1.out _))
                  | (go_at_call_of 23 (Value.slice A7 y.key.length c7); first | exact quiet_drawn (HC2.out _) | exact quiet_add_left (HC2.out _))))
                go_wp2_with fail
                refine (HD2.out _).mono ?_
                rintro e w5 ⟨rfl, q, rfl⟩
                go_wp2
                go_roundw
                case rel => exact ⟨.inr (.inl ⟨rfl, by rw [HF.out.2.1], rfl, by rw [HF.out.1]⟩), HF.out.2.2.drewN _⟩
                case measure => simp [intOf]
              · exact absurd hlx (lt_asymm hyl)
          · rcases HI.out.2.2.2.2.2.2.2.2.2 with ⟨hc, hcs, hcd⟩ | ⟨mm, y, hc, hkm, hy, hys, hyd, hyl, hya⟩
            · rw [hc] at Y1
              have y0 : wr.cell? ⟨bb, 1, none⟩ = some (.int .i64 (-1)) := Y1.cell 1
              have HE := Lib.hid (show _ ∧ _ ∧ _ from ⟨hcs, hcd, hki⟩)
              clear hc hcs hcd hki X1 Y1
              go_wp2
              go_roundw
              case rel => exact ⟨.inr (.inr ⟨rfl, rfl, by rw [HE.out.2.1], by rw [HE.out.1]; simp⟩), HE.out.2.2⟩
              case measure => simp [intOf]
            · rw [hc] at Y1
              have y0 : wr.cell? ⟨bb, 1, none⟩ = some (.int .i64 (mm : Int)) := Y1.cell 1
              have hmn : mm < n := by have := (List.getElem?_eq_some_iff.1 hy).1; have := H4.out.2.2.2.2.2.1; omega
              have hym := H4.out.2.2.2.1 y (List.mem_of_getElem? hy)
              obtain ⟨ad', A7, c7, A8, c8, ead, him', g0, g1, g2, g3, g4, g5, b7, b8⟩ := (H4.out.2.1.new_ (HI.out.2.2.2.1.trans hki (fun _ x => x.elim))).at_ hy
              injection ead with ead
              subst ead
              have KY : Keep No wr (wr.alloc (.cells #[.slice A7 y.key.length c7, .slice A8 y.value.length c8, .int .u64 y.digest, .int .i64 y.size, .int .i64 y.left, .int .i64 y.right] 44)) := (Keep.refl No wr).alloc _
              have YB : Blk (wr.alloc (.cells #[.slice A7 y.key.length c7, .slice A8 y.value.length c8, .int .u64 y.digest, .int .i64 y.size, .int .i64 y.left, .int .i64 y.right] 44)) wr.heap.size 44 #[.slice A7 y.key.length c7, .slice A8 y.value.length c8, .int .u64 y.digest, .int .i64 y.size, .int .i64 y.left, .int .i64 y.right] := Blk.new _ _ _
              have q1 : (((mm : Nat) : Int) == -1) = false := beq_eq_false_iff_ne.2 (by omega)
              have q2 : decide (mm ≤ k) = false := decide_eq_false (by omega)
              have q3 : decide (n ≤ mm) = false := decide_eq_false (by omega)
              have hya2 := above_iff.1 hya
              have HE := Lib.hid (show _ ∧ _ ∧ _ ∧ _ ∧ _ ∧ _ ∧ _ ∧ _ ∧ _ ∧ _ ∧ _ from ⟨hys, hyd, hki, hym, b7, b8, KY, YB, X1, hyl, hya2⟩)
              have hysz : (0 : Int) ≤ (y.size : Int) ∧ (y.size : Int) ≤ 400 := by have := hym.2; omega
              clear hc hys hyd hki hym b7 b8 KY YB X1 Y1 hyl hya hya2 him' hy
              go_wp2_with fail
              obtain ⟨hys, hyd, hki, hym, b7, b8, KY, YB, X1, hyl, hya⟩ := HE.out
              generalize (wr.alloc (.cells #[.slice A7 y.key.length c7, .slice A8 y.value.length c8, .int .u64 y.digest, .int .i64 y.size, .int .i64 y.left, .int .i64 y.right] 44)) = wy at *
              generalize wr.heap.size = yb at *
              have X2 := X1.keep KY (fun x => x)
              have by7 := b7.new_ KY
              have by8 := HI.out.2.1.new_ (hki.trans KY (fun _ x => x.elim))
              have x0 := X2.cell 0
              have yc0 := YB.cell 0
              have yc2 := YB.cell 2
              have yc3 := YB.cell 3
              simp only [List.getElem?_toArray, List.getElem?_cons_zero, List.getElem?_cons_succ] at x0 yc0 yc2 yc3
              have hx64 := HI.out.1.1.2.1
              have hy64 := hym.1.2.1
              have HC1 := Lib.hid (fun q => rcoin_any seed 3 A5 _ c5 x.key (wy.drewN q) (by8.drewN q) (by omega))
              have HC2 := Lib.hid (fun q => rcoin_any seed 3 A7 _ c7 y.key (wy.drewN q) (by7.drewN q) (by omega))
              have HD1 := Lib.hid (fun q => rcompare_any A5 A7 _ c5 _ c7 x.key y.key (wy.drewN q) (by8.drewN q) (by7.drewN q) (by omega) (by omega))
              have HD2 := Lib.hid (fun q => rcompare_any A7 A5 _ c7 _ c5 y.key x.key (wy.drewN q) (by7.drewN q) (by8.drewN q) (by omega) (by omega))
              have hneg : ¬ rcmp y.key x.key < 0 := mt rcmp_neg.1 (lt_asymm hyl)
              have hneg2 : rcmp x.key y.key < 0 := rcmp_neg.2 hyl
              unfold height at hya
              generalize coin seed 3 x.key = ca at *
              generalize coin seed 3 y.key = cb at *
              generalize rcmp y.key x.key = ryx at *
              generalize rcmp x.key y.key = rxy at *
              have HF := Lib.hid (show _ ∧ _ ∧ _ from ⟨hys, hyd, hki.trans KY (fun _ x => x.elim)⟩)
              clear hys hyd hki hym b7 b8 KY YB X1 X2 by7 by8 HE hyl
              rcases hya with hya | ⟨hya, hlx⟩
              · have d1 : decide (ca < cb) = false := by simp; omega
                have d2 : (ca == cb) = false := by simp; omega
                clear hya
                go_quiet ((first
                  | (go_at_call_of 23 (Value.slice A5 x.key.length c5); first | exact quiet_drawn (HC1.out _) | exact quiet_add_left (HC1.out _))
                  | (go_at_call_of 23 (Value.slice A7 y.key.length c7); first | exact quiet_drawn (HC2.out _) | exact quiet_add_left (HC2.out _))))
                go_wp2_with fail
                refine (HD2.out _).mono ?_
                rintro e w5 ⟨rfl, q, rfl⟩
                go_wp2
                go_roundw
                case rel => exact ⟨.inr (.inr ⟨rfl, rfl, by rw [HF.out.2.1], by rw [HF.out.1]⟩), HF.out.2.2.drewN _⟩
                case measure => simp [intOf]
              · clear hlx
                subst hya
                go_quiet ((first
                  | (go_at_call_of 23 (Value.slice A5 x.key.length c5); first | exact quiet_drawn (HC1.out _) | exact quiet_add_left (HC1.out _))
                  | (go_at_call_of 23 (Value.slice A7 y.key.length c7); first | exact quiet_drawn (HC2.out _) | exact quiet_add_left (HC2.out _))))
                go_wp2_with fail
                refine (HD1.out _).mono ?_
                rintro e w5 ⟨rfl, q, rfl⟩
                rw [World.drewN_drewN]
                go_wp2_with fail
                refine (HD2.out _).mono ?_
                rintro e w6 ⟨rfl, q', rfl⟩
                go_wp2
                go_roundw
                case rel => exact ⟨.inr (.inr ⟨rfl, rfl, by rw [HF.out.2.1], by rw [HF.out.1]⟩), HF.out.2.2.drewN _⟩
                case measure => simp [intOf]
          · have hxs := HI.out.2.2.2.2.2.2.1
            have hxd := HI.out.2.2.2.2.2.2.2.1
            have e13 : (1 + (ls : Int) + (rs : Int)) = ((x.size : Nat) : Int) := by rw [hxs]; push_cast; rfl
            rw [e13]
            have n1 := HI.out.2.2.2.2.2.2.2.2.1.nonneg H4.out.2.2.1
            have n2 := HI.out.2.2.2.2.2.2.2.2.2.nonneg H4.out.2.2.1
            have hx64 := HI.out.1.1.2.1
            have hx1000 := HI.out.1.1.2.2
            have x0 := X1.cell 0
            have x1 := X1.cell 1
            have x2 := X1.cell 2
            have x3 := X1.cell 3
            simp only [List.getElem?_toArray, List.getElem?_cons_zero, List.getElem?_cons_succ] at x0 x1 x2 x3
            have HM := Lib.hid (fun (w' : World) (hk' : Keep No wr w') => rmark_any seed ld rd A5 A6 _ c5 _ c6 x.key x.value w' (HI.out.2.1.new_ (hki.trans hk' (fun _ x => x.elim))) (HI.out.2.2.1.new_ (hki.trans hk' (fun _ x => x.elim))) (by omega) (by omega) n1 n2)
            rw [← hxd] at HM
            have hxb := X1.lt
            have HF := Lib.hid (show _ ∧ _ from ⟨X1, hki⟩)
            clear hxs hxd e13 X1 Y1 hki n1 n2
            go_wp2_with fail
            go_region_held3 (fun w' => w'.cell? ⟨xb, 0, none⟩ = some (.slice A5 x.key.length c5) ∧ w'.cell? ⟨xb, 1, none⟩ = some (.slice A6 x.value.length c6) ∧ w'.cell? ⟨xb, 2, none⟩ = some (.int .u64 x.digest) ∧ w'.cell? ⟨xb, 3, none⟩ = some (.int .i64 x.size))
              (first
                | exact ⟨x0, x1, x2, x3⟩
                | exact ⟨(hkd.cell (p := ⟨xb, 0, none⟩) hxb (fun x => x)).trans x0, (hkd.cell (p := ⟨xb, 1, none⟩) hxb (fun x => x)).trans x1, (hkd.cell (p := ⟨xb, 2, none⟩) hxb (fun x => x)).trans x2, (hkd.cell (p := ⟨xb, 3, none⟩) hxb (fun x => x)).trans x3⟩)
              ((go_at_call 25; refine (HM.out _ ((Keep.refl No wr).drew)).mono ?_; rintro e w5 ⟨rfl, hkd⟩))
            go_wp2
            go_roundw
            case rel => exact ⟨k + 1, by omega, by go_num, HI.out.2.2.2.1.trans (HF.out.2.trans hkd.of_drew (fun _ x => x.elim)) (fun _ x => x.elim)⟩
            case measure => simp [intOf]; omega
      · have hkn : n = k := by omega
        subst hkn
        have hkw := hkr
        have HM5 := H4.out.1.new_ hkr
        have HD := Lib.hid (fun q => mdigest_any (HM5.new_ ((Keep.refl No wr).drewN q)))
        have HLn := Lib.hid (fun q => len_any (HM5.new_ ((Keep.refl No wr).drewN q)))
        rw [HNn.out] at HLn
        by_cases h0 : n = 0
        · have HK := Lib.hid hkr
          clear hkr hkw HM5
          subst h0
          go_wp2_with fail
          go_quiet (fail)
          go_wp2
          go_ret
          exact ⟨rfl, (H4.out.2.2.2.2.2.2.trans HK.out (fun _ x => x.elim)).drewN _⟩
        · have q0 : (((n : Nat) : Int) == 0) = false := beq_eq_false_iff_ne.2 (by omega)
          obtain ⟨x, hx⟩ : ∃ x, N[0]? = some x := ⟨_, List.getElem?_eq_getElem (by rw [H4.out.2.2.2.2.2.1]; omega)⟩
          obtain ⟨ad, A5, c5, A6, c6, rfl, him, e0, e1, e2, e3, e4, e5, b1, b2⟩ := (H4.out.2.1.new_ hkr).at_ hx
          obtain ⟨hsz0, hd⟩ := H4.out.2.2.2.2.1 x hx
          have hsz : ((x.size : Nat) : Int) = (n : Int) := by rw [hsz0]
          clear hsz0
          rw [hd] at HD
          rw [hsz] at e3
          have p0 : 0 < n := by omega
          rw [show ad.add (0 * 6) = ad from by simp [Addr.add]] at e2 e3
          have HK := Lib.hid hkr
          clear h0 hkr hkw HM5 hd hsz b1 b2 him e0 e1 e4 e5 hx
          go_wp2_with fail
          go_quiet ((first
            | (go_at_call 26; first | exact quiet_drawn (HD.out _) | exact quiet_add_left (HD.out _))
            | (go_at_call 27; first | exact quiet_drawn (HLn.out _) | exact quiet_add_left (HLn.out _))))
          go_wp2
          go_ret
          exact ⟨rfl, (H4.out.2.2.2.2.2.2.trans HK.out (fun _ x => x.elim)).drewN _⟩
end Go.Proofs.Ytdmckjojeddaaaa
