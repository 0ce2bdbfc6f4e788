/- Contract of the reference's Prove. Conditions: the lengths are bounded. -/
import Derived.Test.YtdmckjojeddaaaaR6
import Derived.Test.YtdmckjojeddaaaaU6
import Derived.Deep.LoopGhost
import Derived.Deep.DeepCutAuto
namespace Go.Proofs.Ytdmckjojeddaaaa
open Go.RowKit Go.Proofs.YtdmckjojeddaaaaKit Go.Proofs.YtdmckjojeddaaaaPlain

/-- A node's copy and the step that is being put together. -/
structure PSt (base : Nat) (w : World) (xb sb : Nat) (k v : List UInt8) (A : Option Addr) (c : Nat) (B : Option Addr) (d : Nat) (dg sz lf rt l' r' : Int) (wc : World) : Prop where
  xblk : Blk wc xb 44 #[.slice A k.length c, .slice B v.length d, .int .u64 dg, .int .i64 sz, .int .i64 lf, .int .i64 rt]
  sblk : Blk wc sb 29 #[.slice A k.length c, .slice B v.length d, .int .u64 l', .int .u64 r']
  keep : Keep No w wc
  xge : w.heap.size ≤ xb
  sge : w.heap.size ≤ sb
section
variable {base : Nat} {w : World} {xb sb : Nat} {k v : List UInt8} {A B : Option Addr} {c d : Nat} {dg sz lf rt l' r' : Int} {wc w' : World}
theorem PSt.start : PSt base w w.heap.size (w.heap.size + 1) k v A c B d dg sz lf rt l' r' ((w.alloc (.cells #[.slice A k.length c, .slice B v.length d, .int .u64 dg, .int .i64 sz, .int .i64 lf, .int .i64 rt] 44)).alloc (.cells #[.slice A k.length c, .slice B v.length d, .int .u64 l', .int .u64 r'] 29)) := by
  refine ⟨(Blk.new _ _ _).alloc _, ?_, ((Keep.refl _ _).alloc _).alloc _, Nat.le_refl _, by omega⟩
  have := Blk.new (w.alloc (.cells #[.slice A k.length c, .slice B v.length d, .int .u64 dg, .int .i64 sz, .int .i64 lf, .int .i64 rt] 44)) 29 #[.slice A k.length c, .slice B v.length d, .int .u64 l', .int .u64 r']
  rwa [show (w.alloc (.cells #[.slice A k.length c, .slice B v.length d, .int .u64 dg, .int .i64 sz, .int .i64 lf, .int .i64 rt] 44)).heap.size = w.heap.size + 1 from by simp] at this
theorem PSt.set2 (h : PSt base w xb sb k v A c B d dg sz lf rt l' r' wc) (u : Int) : PSt base w xb sb k v A c B d dg sz lf rt u r' (wc.setCell ⟨sb, 2, none⟩ (.int .u64 u)) :=
  ⟨h.xblk.far (p := ⟨sb, 2, none⟩) (h.xblk.ne_ h.sblk (by decide)) _, h.sblk.set_ 2 _, h.keep.setCell (p := ⟨sb, 2, none⟩) (.inr h.sge) _, h.xge, h.sge⟩
theorem PSt.set3 (h : PSt base w xb sb k v A c B d dg sz lf rt l' r' wc) (u : Int) : PSt base w xb sb k v A c B d dg sz lf rt l' u (wc.setCell ⟨sb, 3, none⟩ (.int .u64 u)) :=
  ⟨h.xblk.far (p := ⟨sb, 3, none⟩) (h.xblk.ne_ h.sblk (by decide)) _, h.sblk.set_ 3 _, h.keep.setCell (p := ⟨sb, 3, none⟩) (.inr h.sge) _, h.xge, h.sge⟩
theorem PSt.x4 (h : PSt base w xb sb k v A c B d dg sz lf rt l' r' wc) : wc.cell? ⟨xb, 4, none⟩ = some (.int .i64 lf) := h.xblk.cell 4
theorem PSt.x5 (h : PSt base w xb sb k v A c B d dg sz lf rt l' r' wc) : wc.cell? ⟨xb, 5, none⟩ = some (.int .i64 rt) := h.xblk.cell 5
theorem PSt.x0 (h : PSt base w xb sb k v A c B d dg sz lf rt l' r' wc) : wc.cell? ⟨xb, 0, none⟩ = some (.slice A k.length c) := h.xblk.cell 0
theorem PSt.s0 (h : PSt base w xb sb k v A c B d dg sz lf rt l' r' wc) : wc.cell? ⟨sb, 0, none⟩ = some (.slice A k.length c) := h.sblk.cell 0
theorem PSt.s1 (h : PSt base w xb sb k v A c B d dg sz lf rt l' r' wc) : wc.cell? ⟨sb, 1, none⟩ = some (.slice B v.length d) := h.sblk.cell 1
theorem PSt.s2 (h : PSt base w xb sb k v A c B d dg sz lf rt l' r' wc) : wc.cell? ⟨sb, 2, none⟩ = some (.int .u64 l') := h.sblk.cell 2
theorem PSt.s3 (h : PSt base w xb sb k v A c B d dg sz lf rt l' r' wc) : wc.cell? ⟨sb, 3, none⟩ = some (.int .u64 r') := h.sblk.cell 3
theorem PSt.sf (h : PSt base w xb sb k v A c B d dg sz lf rt l' r' wc) (i : Nat) : wc.frozen? ⟨sb, i, none⟩ = false := h.sblk.frozen i
end

def RProveRel (base : Nat) (W : World) (seed : Int) (key : List UInt8) (N : List NodeV) (all : List Side) (m : Nat) (v8 v9 : Value) (wr : World) : Prop :=
  ∃ (t : PT) (i : Nat) (pre : List Side), v9 = .int .i64 (t.at_ i) ∧ Hid (t.size = m) ∧ Hid (SubAt N seed i t) ∧ Hid (all = pre ++ t.prove seed key) ∧ Hid (Keep No W wr) ∧ Hid (OwnS base W.heap.size pre v8 wr)

set_option maxHeartbeats 4000000 in
set_option maxRecDepth 100000 in
theorem rprove_any {base : Nat} {w : World} {seed : Int} {Lp : Option Addr} {m d : Nat} {l : PairL} {A : Option Addr} {n c : Nat} {key : List UInt8} (hl : Pairs base w Lp m l) (hmd : m ≤ d) (hok : Okay l) (hsz : l.length ≤ 50000) (hb : base ≤ w.heap.size)
    (hk : Bytes base w A n key) (hn : n ≤ 1000000) (hnm : ∀ x ∈ nodesL seed l, keyOk x.key x.value) :
    Calls Try.prog 31 #[.int .u64 seed, .slice Lp m d, .slice A n c] w (RecsRet (SideR base) 29 4 w (proveL seed l key)) := by
  obtain ⟨i0, hi0, hz0, hz1, hz2⟩ := info_parts info_side
  have HN := Lib.hid (rnodes_any (seed := seed) hl hmd hok hsz hb)
  have hlen := nodesL_length seed l
  have hall : proveL seed l key = (build seed l).prove seed key := rfl
  have hsub : SubAt (nodesL seed l) seed 0 (build seed l) := fun j _ => by rw [Nat.zero_add]; rfl
  have hbs := build_size seed l
  have hpl := proveL_length seed l key
  have hp0 : (build seed l = .nil ∧ l.length = 0) ∨ (0 < l.length ∧ (build seed l).at_ 0 = 0) := by
    cases hb : build seed l with
    | nil => exact .inl ⟨rfl, by rw [← hbs, hb]; rfl⟩
    | node k v a b => exact .inr ⟨by rw [← hbs, hb]; simp only [PT.size]; omega, rfl⟩
  have HK := Lib.hid hk
  have H0 := Lib.hid (show _ ∧ _ ∧ _ from ⟨hall, hsub, hbs⟩)
  have HNM := Lib.hid hnm
  have hlN : (nodesL seed l).length ≤ 50000 := by omega
  rw [← hlen] at hp0
  have HLEN := Lib.hid hlen
  generalize proveL seed l key = all at *
  generalize nodesL seed l = N at *
  generalize build seed l = t0 at *
  have hal : all.length ≤ 50000 := by omega
  clear hl hok hk hall hsub hbs hpl hlen hnm
  go_enter Try.func31, Try.ntmps31
  go_wp2_with fail
  refine HN.out.mono ?_
  rintro e w1 ⟨A1, c1, rfl, hc1, ho1, hk1⟩
  have HR := Lib.hid (OwnR.recs (base := base) ho1 rfl)
  have HW := Lib.hid hk1
  have hbw := Nat.le_trans hb hk1.size
  clear HN ho1 hk1 hc1
  have hstart : 0 ≤ N.length := Nat.zero_le _
  rcases hp0 with ⟨rfl, h0⟩ | ⟨h0, h0'⟩
  · have q : decide (0 < N.length) = false := decide_eq_false (by omega)
    obtain ⟨nn, hnn⟩ : ∃ nn, N.length = nn := ⟨_, rfl⟩
    rw [hnn] at h0 q ⊢
    subst h0
    have HA := Lib.hid (show all = [] from by rw [H0.out.1]; rfl)
    clear hnn q
    go_wp2_with fail
    go_loopg [8, 9] 0 (fun m v8 v9 wr => v8 = .slice none 0 0 ∧ v9 = .int .i64 (-1) ∧ Hid (w1 = wr))
    case atStart => exact ⟨rfl, rfl, Lib.hid rfl⟩
    case round =>
      obtain ⟨rfl, rfl, hwr⟩ := hrel
      obtain rfl := hwr.out
      go_wp2
      go_ret
      rw [HA.out]
      exact ⟨none, 0, rfl, Nat.le_refl _, OwnR.start, HW.out⟩
  · have HT := Lib.hid h0'
    clear h0'
    obtain ⟨nn, hnn⟩ : ∃ nn, N.length = nn := ⟨_, rfl⟩
    have hq1 : decide (0 < nn) = true := decide_eq_true (by omega)
    have hq2 : decide ((0 : Int) < (nn : Nat)) = true := decide_eq_true (by omega)
    rw [hnn] at HR hlN ⊢
    have HNN := Lib.hid hnn
    clear h0 hnn hstart
    go_wp2_with fail
    go_loopg [8, 9] t0.size (fun m v8 v9 wr => RProveRel base w1 seed key N all m v8 v9 wr)
    case atStart => exact ⟨t0, 0, [], by rw [HT.out], Lib.hid rfl, Lib.hid H0.out.2.1, Lib.hid H0.out.1, Lib.hid (Keep.refl _ _), Lib.hid OwnR.start⟩
    case round =>
      obtain ⟨t, i, pre, rfl, hg, hs, ha, hkw, ho⟩ := hrel
      cases t with
      | nil =>
        have e0 : PT.nil.at_ i = -1 := rfl
        rw [e0]
        obtain ⟨A9, n9, c9, rfl, hn9, hc9⟩ := ho.out.shape
        have hal2 : all = pre := by have := ha.out; rw [this]; simp [PT.prove]
        obtain rfl := hn9.out
        have HF := Lib.hid (show RecsRet (SideR base) 29 4 w all (.returned (.slice A9 pre.length c9)) wr from by
          subst hal2; exact ⟨A9, c9, rfl, hc9, OwnR.weak ho.out HW.out.size, HW.out.trans hkw.out (fun _ x => x.elim)⟩)
        clear hal2 hc9
        go_wp2
        go_ret
        exact HF.out
      | node k v a b =>
        have e0 : (PT.node k v a b).at_ i = (i : Int) := rfl
        rw [e0]
        clear e0
        have hx := hs.out.head
        have hsl := hs.out.left
        have hsr := hs.out.right
        have hxm := HNM.out _ (List.mem_of_getElem? hx)
        have hiN : i < N.length := (List.getElem?_eq_some_iff.1 hx).1
        have hNW := NodesAt.new_ HR.out hkw.out
        obtain ⟨ad, B1, d1, B2, d2, rfl, him, g0, g1, g2, g3, g4, g5, bk, bv⟩ := NodesAt.at_ (base := base) hNW hx
        have hyL : ∀ k v c d, a = .node k v c d → ∃ y, N[i + 1]? = some y ∧ y.digest = a.sum seed := fun k v c d e => by subst e; exact ⟨_, hsl.head, rfl⟩
        have hyR : ∀ k v c d, b = .node k v c d → ∃ y, N[i + 1 + a.size]? = some y ∧ y.digest = b.sum seed := fun k v c d e => by subst e; exact ⟨_, hsr.head, rfl⟩
        have hst : all = (pre ++ [⟨k, v, a.sum seed, b.sum seed⟩]) ++ (if key = k then [] else if Lt key k then a.prove seed key else b.prove seed key) := by
          have := ha.out
          rw [this]; simp only [PT.prove, List.append_assoc, List.cons_append, List.nil_append]
        have hln : pre.length + 1 ≤ all.length := by rw [hst]; simp
        have hk64 := hxm.2.1
        have hv1000 := hxm.2.2
        have hdl : a.size < gk ∧ b.size < gk := by have := hg.out; simp only [PT.size] at this; omega
        have j0 : (0 : Int) ≤ (i : Nat) := by omega
        have j1 : ((i : Nat) : Int) < (nn : Nat) := by rw [← HNN.out]; omega
        have n0 := digest_nonneg seed a
        have n1 := digest_nonneg seed b
        have HX := Lib.hid (show _ ∧ _ ∧ _ ∧ _ ∧ _ ∧ _ ∧ _ ∧ _ from ⟨hsl, hsr, hyL, hyR, hst, bk, bv, hNW⟩)
        clear hx hsl hsr hyL hyR hst bk bv hNW him hxm hiN
        obtain ⟨wo, rfl⟩ : ∃ wo : World, wo = wr := ⟨_, rfl⟩
        generalize mark seed (a.sum seed) k v (b.sum seed) = dg at *
        generalize ((1 + a.size + b.size : Nat) : Int) = sz at *
        generalize hlf : a.at_ (i + 1) = lf at *
        generalize hrt : b.at_ (i + 1 + a.size) = rt at *
        have HLR := Lib.hid (show _ ∧ _ from ⟨hlf, hrt⟩)
        clear hlf hrt
        go_upto_if 32 with fail
        have hP0 : PSt base wo wo.heap.size (wo.heap.size + 1) k v B1 d1 B2 d2 dg sz lf rt 0 0 _ := PSt.start
        have HP0 := Lib.hid hP0
        clear hP0 g0 g1 g2 g3 g4 g5
        go_cut [11] (fun s11 wx => s11 = .pointer (some ⟨wo.heap.size + 1, 0, none⟩) ∧ Hid (PSt base wo wo.heap.size (wo.heap.size + 1) k v B1 d1 B2 d2 dg sz lf rt (a.sum seed) 0 wx))
        case first =>
          cases a with
          | nil =>
            obtain rfl : lf = -1 := HLR.out.1.symm
            go_wp2_with fail
            go_meet
            exact ⟨rfl, HP0⟩
          | node ka va ca da =>
            obtain rfl : lf = ((i + 1 : Nat) : Int) := HLR.out.1.symm
            obtain ⟨y, hy, hyd⟩ := HX.out.2.2.1 _ _ _ _ rfl
            have hyN := (List.getElem?_eq_some_iff.1 hy).1
            obtain ⟨ad', _, _, _, _, ead, _, _, _, y2, _, _, _, _, _⟩ := NodesAt.at_ (base := base) (NodesAt.new_ HX.out.2.2.2.2.2.2.2 HP0.out.keep) hy
            injection ead with ead
            subst ead
            have k0 : (0 : Int) ≤ ((i + 1 : Nat) : Int) := by omega
            have k1 : ((i + 1 : Nat) : Int) < (nn : Nat) := by rw [← HNN.out]; omega
            have HY := Lib.hid hyd
            clear hy hyd hyN
            generalize i + 1 = ii at *
            go_wp2_with fail
            go_meet
            refine ⟨rfl, Lib.hid ?_⟩
            rw [← HY.out]
            exact PSt.start
        case rest =>
          obtain ⟨rfl, HP1⟩ := hcut
          have x5 := HP1.out.x5
          have s3 := HP1.out.s3
          have s3f := HP1.out.sf 3
          go_upto_if 42 with fail
          go_cut [11] (fun s11 wx => s11 = .pointer (some ⟨wo.heap.size + 1, 0, none⟩) ∧ Hid (PSt base wo wo.heap.size (wo.heap.size + 1) k v B1 d1 B2 d2 dg sz lf rt (a.sum seed) (b.sum seed) wx))
          case first =>
            cases b with
            | nil =>
              obtain rfl : rt = -1 := HLR.out.2.symm
              go_wp2_with fail
              go_meet
              exact ⟨rfl, HP1⟩
            | node ka va ca da =>
              obtain rfl : rt = ((i + 1 + a.size : Nat) : Int) := HLR.out.2.symm
              obtain ⟨y, hy, hyd⟩ := HX.out.2.2.2.1 _ _ _ _ rfl
              have hyN := (List.getElem?_eq_some_iff.1 hy).1
              obtain ⟨ad', _, _, _, _, ead, _, _, _, y2, _, _, _, _, _⟩ := NodesAt.at_ (base := base) (NodesAt.new_ HX.out.2.2.2.2.2.2.2 HP1.out.keep) hy
              injection ead with ead
              subst ead
              have k0 : (0 : Int) ≤ ((i + 1 + a.size : Nat) : Int) := by omega
              have k1 : ((i + 1 + a.size : Nat) : Int) < (nn : Nat) := by rw [← HNN.out]; omega
              have HY := Lib.hid hyd
              clear hy hyd hyN
              generalize i + 1 + a.size = ii at *
              go_wp2_with fail
              go_meet
              refine ⟨rfl, Lib.hid ?_⟩
              rw [← HY.out]
              exact HP1.out.set3 _
          case rest =>
            obtain ⟨rfl, HP2⟩ := hcut
            clear x5 s3 s3f
            have q0 := HP2.out.s0
            have q1 := HP2.out.s1
            have q2 := HP2.out.s2
            have q3 := HP2.out.s3
            have hpo : ∀ kk, u8.ownBlock = some kk → kk ≠ wo.heap.size := fun kk e e2 => by have := OwnR.lt_ ho.out e; omega
            have hpg : ∀ kk, u8.ownBlock = some kk → w1.heap.size ≤ kk := fun kk e => ho.out.ge e
            have SR : SideR base wc ⟨k, v, a.sum seed, b.sum seed⟩ [.slice B1 k.length d1, .slice B2 v.length d2, .int .u64 (a.sum seed), .int .u64 (b.sum seed)] := ⟨B1, d1, B2, d2, rfl, HX.out.2.2.2.2.2.1.new_ HP2.out.keep, HX.out.2.2.2.2.2.2.1.new_ HP2.out.keep, n0, n1⟩
            have HA := Lib.hid (show _ ∧ _ ∧ _ ∧ _ from ⟨OwnS.new_ ho.out HP2.out.keep, SR, hpo, hpg⟩)
            have hwz : w1.heap.size ≤ wc.heap.size := (hkw.out.trans HP2.out.keep (fun _ x => x.elim)).size
            clear SR hpo hpg
            go_wp2_with (at_builtin; refine wpList_append_rec _ rfl (.tmp 50) (.tmp 52) _ rfl w1.heap.size 29 i0 _ 4 64 Try.underlying24 hi0 hz0 hz1 hz2 rfl (by omega) (sideR_offs (base := base)) hbw (by decide) rfl pre u8 rfl HA.out.1 ⟨k, v, a.sum seed, b.sum seed⟩ [.slice B1 k.length d1, .slice B2 v.length d2, .int .u64 (a.sum seed), .int .u64 (b.sum seed)] _ rfl (by rfl) HA.out.2.1 (sideR_one HA.out.2.1) (by simp only [maxLen]; omega) (by omega) hwz ?_; intro v2 w2 O2 hk2 _; have XB := HP2.out.xblk.keep hk2 (fun e => HA.out.2.2.1 _ e rfl); have x0 := XB.cell 0; have x4 := XB.cell 4; have x5 := XB.cell 5; simp only [List.getElem?_toArray, List.getElem?_cons_zero, List.getElem?_cons_succ] at x0 x4 x5; have HB := Lib.hid (show _ ∧ _ ∧ _ from ⟨O2, (hkw.out.trans HP2.out.keep (fun _ x => False.elim x)).trans hk2 (fun x e => .inr (HA.out.2.2.2 x e)), (HX.out.2.2.2.2.2.1.new_ HP2.out.keep).off hk2 (OwnR.off HA.out.1 hbw (show 29 ≠ 5 by decide))⟩); clear O2 hk2 XB)
            have hcmp := rcompare_any A B1 n c _ d1 key k w2 (HK.out.new_ (HW.out.trans HB.out.2.1 (fun _ x => x.elim))) HB.out.2.2 (by omega) (by omega)
            clear q0 q1 q2 q3 hwz
            by_cases hkk : key = k
            · rw [rcmp_eq.2 hkk] at hcmp
              have hs2 := Lib.hid (show all = (pre ++ [⟨k, v, a.sum seed, b.sum seed⟩]) ++ PT.nil.prove seed key from by rw [HX.out.2.2.2.2.1, if_pos hkk]; rfl)
              have HC := Lib.hid hcmp
              clear hcmp hkk
              refine HC.out.mono ?_
              rintro e w3 ⟨rfl, q, rfl⟩
              go_wp2
              go_roundg 0
              case measure => omega
              case rel => exact ⟨.nil, 0, _, rfl, Lib.hid rfl, Lib.hid (fun j hj => absurd hj (by simp [PT.size])), hs2, Lib.hid (HB.out.2.1.drewN _), Lib.hid (OwnS.new_ HB.out.1 ((Keep.refl No w2).drewN _))⟩
            · have hz : (rcmp key k == 0) = false := beq_eq_false_iff_ne.2 (fun e => hkk (rcmp_eq.1 e))
              by_cases hlt : Lt key k
              · have hneg := rcmp_neg.2 hlt
                have hs2 := Lib.hid (show all = (pre ++ [⟨k, v, a.sum seed, b.sum seed⟩]) ++ a.prove seed key from by rw [HX.out.2.2.2.2.1, if_neg hkk, if_pos hlt])
                have hlt2 := hdl.1
                generalize rcmp key k = z at *
                have HC := Lib.hid hcmp
                clear hcmp hkk hlt
                refine HC.out.mono ?_
                rintro e w3 ⟨rfl, q, rfl⟩
                go_wp2
                go_roundg a.size
                case measure => omega
                case rel => exact ⟨a, i + 1, _, by rw [HLR.out.1], Lib.hid rfl, Lib.hid HX.out.1, hs2, Lib.hid (HB.out.2.1.drewN _), Lib.hid (OwnS.new_ HB.out.1 ((Keep.refl No w2).drewN _))⟩
              · have hneg := mt rcmp_neg.1 hlt
                have hs2 := Lib.hid (show all = (pre ++ [⟨k, v, a.sum seed, b.sum seed⟩]) ++ b.prove seed key from by rw [HX.out.2.2.2.2.1, if_neg hkk, if_neg hlt])
                have hlt2 := hdl.2
                generalize rcmp key k = z at *
                have HC := Lib.hid hcmp
                clear hcmp hkk hlt
                refine HC.out.mono ?_
                rintro e w3 ⟨rfl, q, rfl⟩
                go_wp2
                go_roundg b.size
                case measure => omega
                case rel => exact ⟨b, i + 1 + a.size, _, by rw [HLR.out.2], Lib.hid rfl, Lib.hid HX.out.2.1, hs2, Lib.hid (HB.out.2.1.drewN _), Lib.hid (OwnS.new_ HB.out.1 ((Keep.refl No w2).drewN _))⟩
end Go.Proofs.Ytdmckjojeddaaaa
