/- Contract of order's Prove. Conditions: it names its own. -/
import Derived.Test.YtdmckjojeddaaaaU3
import Derived.Test.YtdmckjojeddaaaaC6
namespace Go.Proofs.Ytdmckjojeddaaaa
open Go.RowKit Go.Proofs.YtdmckjojeddaaaaKit Go.Proofs.YtdmckjojeddaaaaPlain

theorem sideR_off {base : Nat} {w w1 : World} {x : Side} {cs : List Value} {S : Nat → Prop} (h : SideR base w x cs) (hk : Keep S w w1) (hs : Off base 5 w S) : SideR base w1 x cs := by
  obtain ⟨A, c, B, d, e, h1, h2, h3⟩ := h
  exact ⟨A, c, B, d, e, h1.off hk hs, h2.off hk hs, h3⟩
theorem sideR_offs {base : Nat} (S : Nat → Prop) (w w' : World) (x : Side) (cs : List Value) (h : SideR base w x cs) (hk : Keep S w w') (hs : Off base 5 w S) : SideR base w' x cs := sideR_off h hk hs
theorem sideR_one {base : Nat} {w : World} {x : Side} {cs : List Value} (h : SideR base w x cs) : ∀ u ∈ cs, u.oneCell' = true := by
  obtain ⟨A, c, B, d, rfl, _⟩ := h
  intro u hu
  simp at hu
  rcases hu with rfl | rfl | rfl | rfl <;> rfl
abbrev OwnS (base B : Nat) := OwnR (SideR base) 29 4 B
theorem info_side : (Try.prog.info? 29).map (fun i => (i.zero, i.size, i.bytes)) = some (some (.agg #[.slice none 0 0, .slice none 0 0, .int .u64 0, .int .u64 0]), 4, 64) := by kernel_rfl

/-- A step whose bytes lie in blocks of the call's own. -/
def SideW (base : Nat) (w : World) (x : Side) (cs : List Value) : Prop :=
  ∃ A c B d, cs = [.slice A x.key.length c, .slice B x.value.length d, .int .u64 x.left, .int .u64 x.right] ∧ BytesAt base w A x.key.length x.key ∧ BytesAt base w B x.value.length x.value ∧ 0 ≤ x.left ∧ 0 ≤ x.right
theorem SideW.off {base : Nat} {w w1 : World} {x : Side} {cs : List Value} {S : Nat → Prop} (h : SideW base w x cs) (hk : Keep S w w1) (hs : Off base 5 w S) : SideW base w1 x cs := by
  obtain ⟨A, c, B, d, e, h1, h2, h3⟩ := h
  exact ⟨A, c, B, d, e, h1.off hk hs, h2.off hk hs, h3⟩
theorem SideW.offs {base : Nat} (S : Nat → Prop) (w w' : World) (x : Side) (cs : List Value) (h : SideW base w x cs) (hk : Keep S w w') (hs : Off base 5 w S) : SideW base w' x cs := h.off hk hs
theorem SideW.new_ {base : Nat} {w w1 : World} {x : Side} {cs : List Value} (h : SideW base w x cs) (hk : Keep No w w1) : SideW base w1 x cs := h.off hk Off.no
theorem SideW.r {base base' : Nat} {w : World} {x : Side} {cs : List Value} (h : SideW base w x cs) (hb : base' ≤ base) : SideR base' w x cs := by
  obtain ⟨A, c, B, d, e, h1, h2, h3⟩ := h
  exact ⟨A, c, B, d, e, (h1.lower hb).1, (h2.lower hb).1, h3⟩
abbrev OwnSW (base B : Nat) := OwnR (SideW base) 29 4 B
theorem OwnSW.new_ {base B : Nat} {w w1 : World} {l : List Side} {v : Value} (h : OwnSW base B l v w) (hk : Keep No w w1) : OwnSW base B l v w1 := OwnR.new_ h hk (fun _ _ hx => hx.new_ hk)

/-- What is held while a step is put together: the pair's block, the node's children, the frame. -/
theorem step_keep {w W W' : World} {pb b : Nat} {x0 x1 x3 x4 : Value} {T : Nat → Prop}
    (h : W.cell? ⟨pb, 0, none⟩ = some x0 ∧ W.cell? ⟨pb, 1, none⟩ = some x1 ∧ W.cell? ⟨b, 3, none⟩ = some x3 ∧ W.cell? ⟨b, 4, none⟩ = some x4 ∧ Keep No w W ∧ pb < W.heap.size ∧ b < W.heap.size)
    (hk : Keep T W W') (h1 : ¬ T pb) (h2 : ¬ T b) (hT : ∀ k, T k → w.heap.size ≤ k) :
    W'.cell? ⟨pb, 0, none⟩ = some x0 ∧ W'.cell? ⟨pb, 1, none⟩ = some x1 ∧ W'.cell? ⟨b, 3, none⟩ = some x3 ∧ W'.cell? ⟨b, 4, none⟩ = some x4 ∧ Keep No w W' ∧ pb < W'.heap.size ∧ b < W'.heap.size := by
  obtain ⟨c0, c1, c3, c4, k, l1, l2⟩ := h
  exact ⟨(hk.cell (p := ⟨pb, 0, none⟩) l1 h1).trans c0, (hk.cell (p := ⟨pb, 1, none⟩) l1 h1).trans c1, (hk.cell (p := ⟨b, 3, none⟩) l2 h2).trans c3, (hk.cell (p := ⟨b, 4, none⟩) l2 h2).trans c4,
    k.trans hk (fun x hx => .inr (hT x hx)), Nat.lt_of_lt_of_le l1 hk.size, Nat.lt_of_lt_of_le l2 hk.size⟩
theorem step_keep_no {w W W' : World} {pb b : Nat} {x0 x1 x3 x4 : Value}
    (h : W.cell? ⟨pb, 0, none⟩ = some x0 ∧ W.cell? ⟨pb, 1, none⟩ = some x1 ∧ W.cell? ⟨b, 3, none⟩ = some x3 ∧ W.cell? ⟨b, 4, none⟩ = some x4 ∧ Keep No w W ∧ pb < W.heap.size ∧ b < W.heap.size) (hk : Keep No W W') :
    W'.cell? ⟨pb, 0, none⟩ = some x0 ∧ W'.cell? ⟨pb, 1, none⟩ = some x1 ∧ W'.cell? ⟨b, 3, none⟩ = some x3 ∧ W'.cell? ⟨b, 4, none⟩ = some x4 ∧ Keep No w W' ∧ pb < W'.heap.size ∧ b < W'.heap.size :=
  step_keep h hk (fun x => x) (fun x => x) (fun _ x => False.elim x)
theorem OwnS.new_ {base B : Nat} {w w1 : World} {l : List Side} {v : Value} (h : OwnS base B l v w) (hk : Keep No w w1) : OwnS base B l v w1 := OwnR.new_ h hk (fun _ _ hx => hx.keep hk (fun _ x => x.elim))

theorem alloc_drew (w : World) (o : Obj) : (w.alloc o).drew = w.drew.alloc o := rfl
def ProveRel (base : Nat) (w : World) (seed : Int) (key : List UInt8) (all : List Side) (m : Nat) (v5 v6 : Value) (wr : World) : Prop :=
  ∃ (s : AT) (pre : List Side), v6 = .pointer s.ptr ∧ Hid (s.size = m) ∧ Hid (all = pre ++ s.shape.prove seed key) ∧ Hid (Rep base w seed s) ∧ Hid (Keep No w wr) ∧ Hid (OwnSW w.heap.size w.heap.size pre v5 wr)

set_option maxHeartbeats 2000000 in
set_option maxRecDepth 100000 in
theorem prove_own {base : Nat} {w : World} {seed : Int} {mb : Nat} {l : PairL} {F : List Nat} {A : Option Addr} {n c : Nat} {key : List UInt8} (h : MSt base w mb seed l F) (hk : Bytes base w A n key) (hb : base ≤ w.heap.size) (hsz : l.length ≤ 900000) :
    Calls Try.prog 28 #[.pointer (some ⟨mb, 0, none⟩), .slice A n c] w (RecsRet (SideW w.heap.size) 29 4 w (proveL seed l key)) := by
  obtain ⟨i0, hi0, hz0, hz1, hz2⟩ := info_parts info_side
  obtain ⟨t, hO, hwf, rfl, rfl⟩ := h
  rw [toList_length] at hsz
  have HR := Lib.hid (real_any hO.has)
  obtain ⟨_, _, m2⟩ := hO.has.cells
  have hE : proveL seed t.toList key = t.shape.prove seed key := by rw [proveL, shape_build hwf]
  have hlen := prove_length seed key t.shape
  rw [shape_size] at hlen
  rw [hE]
  have HT := Lib.hid (show _ ∧ _ from ⟨hO.rep, hk⟩)
  generalize hall : t.shape.prove seed key = all at *
  have HA := Lib.hid hall
  clear hO hk hE hwf hall
  have hlen2 : all.length ≤ 900000 := by omega
  clear hlen
  go_enter Try.func28, Try.ntmps28
  go_wp2_with (go_at_call 64; refine HR.out.mono ?_; rintro e w' ⟨rfl, rfl⟩)
  go_loopg [5, 6] t.size (fun m v5 v6 wr => ProveRel base w seed key all m v5 v6 wr)
  case atStart => exact ⟨t, [], rfl, Lib.hid rfl, Lib.hid HA.out.symm, Lib.hid HT.out.1, Lib.hid (Keep.refl _ _), Lib.hid OwnR.start⟩
  case round =>
    obtain ⟨s, pre, rfl, hg, ha, hr, hkw, ho⟩ := hrel
    cases s with
    | nil =>
      rw [ptr_nil]
      obtain ⟨A9, n9, c9, rfl, hn9, hc9⟩ := ho.out.shape
      have hal : all = pre := by have := ha.out; rw [this]; simp [AT.shape, PT.prove]
      obtain rfl := hn9.out
      have HF := Lib.hid (show RecsRet (SideW w.heap.size) 29 4 w all (.returned (.slice A9 pre.length c9)) wr from by subst hal; exact ⟨A9, c9, rfl, hc9, ho.out, hkw.out⟩)
      clear hal hc9
      go_wp2
      go_ret
      exact HF.out
    | node b k v lt rt =>
      rw [ptr_node]
      have hrw := hr.out.new_ hkw.out
      have HP := Lib.hid (pair_any hrw.root)
      have hbl := hr.out.root.lt
      have hsd := fun c : Int => fun W (hk : Keep No w W) => side_any (c := c) (hr.out.new_ hk).root
      have hcm := fun W (hk : Keep No w W) => (hr.out.new_ hk).root.cells
      have HSd := Lib.hid hsd
      have HCM := Lib.hid hcm
      have HLR := Lib.hid (fun W (hk : Keep No w W) => (show Rep base W seed lt ∧ Rep base W seed rt from ⟨(hr.out.new_ hk).2.1, (hr.out.new_ hk).2.2⟩))
      have hsz9 : pre.length ≤ all.length := by have := ha.out; rw [this]; simp
      have hst : all = (pre ++ [⟨k, v, lt.sum seed, rt.sum seed⟩]) ++ (if key = k then [] else if Lt key k then lt.shape.prove seed key else rt.shape.prove seed key) := by
        have := ha.out
        rw [this]; simp only [AT.shape, PT.prove, shape_sum, List.append_assoc, List.cons_append, List.nil_append]
      have hln : (pre ++ [(⟨k, v, lt.sum seed, rt.sum seed⟩ : Side)]).length ≤ all.length := by rw [hst]; simp
      have Hst := Lib.hid hst
      have hdl : lt.size < gk ∧ rt.size < gk := by have := hg.out; simp only [AT.size] at this; omega
      have n0 := AT.sum_nonneg seed lt
      have n1 := AT.sum_nonneg seed rt
      clear hrw hsd hcm hst
      go_wp2_with fail
      refine HP.out.mono ?_
      rintro e w1 ⟨A1, c1, B1, d1, rfl, tw⟩
      have hk1 := hkw.out.trans tw.2.2.2.2.2 (fun _ x => x.elim)
      have O1 := OwnSW.new_ ho.out tw.2.2.2.2.2
      have bA : BytesAt w.heap.size w1 A1 k.length k := BytesAt.of_own tw.1 hkw.out.size
      have bB : BytesAt w.heap.size w1 B1 v.length v := BytesAt.of_own tw.2.1 hkw.out.size
      obtain ⟨_, _, _, _, _, _, _, _, _, n3, n4, _⟩ := HCM.out _ hk1
      have hpo : ∀ kk, u5.ownBlock = some kk → kk < w1.heap.size := fun kk e => Nat.lt_of_lt_of_le (OwnR.lt_ ho.out e) tw.2.2.2.2.2.size
      have hbw := Nat.lt_of_lt_of_le hbl hk1.size
      have SR : SideW w.heap.size w1 ⟨k, v, lt.sum seed, rt.sum seed⟩ [.slice A1 k.length c1, .slice B1 v.length d1, .int .u64 (lt.sum seed), .int .u64 (rt.sum seed)] := ⟨A1, c1, B1, d1, rfl, bA, bB, n0, n1⟩
      have H1 := Lib.hid (show _ ∧ _ ∧ _ ∧ _ from ⟨hk1, O1, hpo, SR⟩)
      have hpb : w.heap.size ≤ w1.heap.size := hk1.size
      have KA : Keep No w1 (w1.alloc (.cells #[.slice A1 k.length c1, .slice B1 v.length d1] 82)) := (Keep.refl No w1).alloc _
      have HS0 : (w1.alloc (.cells #[.slice A1 k.length c1, .slice B1 v.length d1] 82)).cell? ⟨w1.heap.size, 0, none⟩ = some (.slice A1 k.length c1) ∧ (w1.alloc (.cells #[.slice A1 k.length c1, .slice B1 v.length d1] 82)).cell? ⟨w1.heap.size, 1, none⟩ = some (.slice B1 v.length d1) ∧
          (w1.alloc (.cells #[.slice A1 k.length c1, .slice B1 v.length d1] 82)).cell? ⟨b, 3, none⟩ = some (.pointer lt.ptr) ∧ (w1.alloc (.cells #[.slice A1 k.length c1, .slice B1 v.length d1] 82)).cell? ⟨b, 4, none⟩ = some (.pointer rt.ptr) ∧
          Keep No w (w1.alloc (.cells #[.slice A1 k.length c1, .slice B1 v.length d1] 82)) ∧ w1.heap.size < (w1.alloc (.cells #[.slice A1 k.length c1, .slice B1 v.length d1] 82)).heap.size ∧ b < (w1.alloc (.cells #[.slice A1 k.length c1, .slice B1 v.length d1] 82)).heap.size :=
        ⟨World.cell?_alloc_at _ _ _ _ rfl, World.cell?_alloc_at _ _ _ _ rfl, (World.cell?_alloc_lt _ _ _ hbw).trans n3, (World.cell?_alloc_lt _ _ _ hbw).trans n4, hk1.alloc _, size_alloc_lt _ _, Nat.lt_trans hbw (size_alloc_lt _ _)⟩
      have OA := OwnSW.new_ O1 KA
      have SA := SR.new_ KA
      clear HP
      go_wp2_with fail
      generalize w1.alloc (.cells #[.slice A1 k.length c1, .slice B1 v.length d1] 82) = W1 at *
      have hWs : w.heap.size ≤ W1.heap.size := HS0.2.2.2.2.1.size
      generalize w1.heap.size = pb at *
      have H2 := Lib.hid (show _ ∧ _ ∧ _ ∧ _ from ⟨HS0, OA, hpo, SA⟩)
      obtain ⟨s0, s1, s3, s4, _⟩ := HS0
      clear hk1 O1 bA bB hpo SR tw KA OA SA H1 n3 n4
      have tokO : ∀ kk, u5.ownBlock = some kk → w.heap.size ≤ kk := fun kk e => ho.out.ge e
      have hmax : pre.length + 1 ≤ 900001 := by omega
      have HL1 := Lib.hid (fun W (h : Keep No w W) => sum_any (HLR.out W h).1)
      have HL2 := Lib.hid (fun W (h : Keep No w W) => sum_any (HLR.out W h).2)
      go_region_held3 (fun w' => w'.cell? ⟨pb, 0, none⟩ = some (.slice A1 k.length c1) ∧ w'.cell? ⟨pb, 1, none⟩ = some (.slice B1 v.length d1) ∧ w'.cell? ⟨b, 3, none⟩ = some (.pointer lt.ptr) ∧ w'.cell? ⟨b, 4, none⟩ = some (.pointer rt.ptr) ∧ Keep No w w' ∧ pb < w'.heap.size ∧ b < w'.heap.size)
        (first
          | exact step_keep_no H2.out.1 (Keep.drew (Keep.refl No _))
          | exact step_keep_no (by assumption) (Keep.refl No _)
          | exact step_keep_no H2.out.1 (Keep.drew (Keep.alloc (Keep.refl No _) _))
          | exact step_keep H2.out.1 (Keep.of_drew hkd) (fun e => by have := H2.out.2.2.1 _ e; omega) (fun e => by have := tokO _ e; omega) (fun _ e => tokO _ e))
        (first
          | (go_at_call_of 70 (Value.pointer lt.ptr); refine (HL1.out _ (Keep.drew H2.out.1.2.2.2.2.1)).mono ?_; rintro e w' ⟨rfl, rfl⟩)
          | (go_at_call_of 70 (Value.pointer rt.ptr); refine (HL2.out _ (Keep.drew H2.out.1.2.2.2.2.1)).mono ?_; rintro e w' ⟨rfl, rfl⟩)
          | (rw [alloc_drew]; refine step_append_rec W1.drew (by rfl) _ _ _ (by rfl) w.heap.size 29 i0 _ 4 64 Try.underlying24 hi0 hz0 hz1 hz2 rfl (by omega) (SideW.offs (base := w.heap.size)) (Nat.le_refl _) (by decide) rfl pre u5 (by rfl) (OwnSW.new_ H2.out.2.1 ((Keep.refl No W1).drew)) ⟨k, v, lt.sum seed, rt.sum seed⟩ [.slice A1 k.length c1, .slice B1 v.length d1, .int .u64 (lt.sum seed), .int .u64 (rt.sum seed)] _ rfl (by rfl) (SideW.new_ H2.out.2.2.2 ((Keep.refl No W1).drew)) (sideR_one (H2.out.2.2.2.r (Nat.le_refl _))) (by simp only [maxLen]; omega) (by omega) hWs ?_; intro v2 w2 O2 hkd _; have HO2 := Lib.hid O2; clear O2))
      all_goals
        have hkw2 : Keep No w w2 := H2.out.1.2.2.2.2.1.trans (Keep.of_drew hkd) (fun x e => .inr (tokO x e))
        obtain ⟨A3, c3, _, _, hA3, _, q0, _⟩ := HCM.out _ hkw2
        have HF := Lib.hid (show _ ∧ _ from ⟨hkw2, HO2.out⟩)
        have hcmp := bcompare A A3 _ c _ c3 key k w2 (HT.out.2.new_ hkw2) hA3
        have hsd2 := Lib.hid (fun c : Int => HSd.out c w2 hkw2)
        clear hkd hkw2 HO2 HL1 HL2 HSd HCM HLR H2 tokO s0 s1 s3 s4 hA3
        by_cases hkk : key = k
        · rw [cb_eq.2 hkk] at hcmp
          have hs2 := Lib.hid (show all = pre ++ [⟨k, v, lt.sum seed, rt.sum seed⟩] from by rw [Hst.out, if_pos hkk]; simp)
          have HC := Lib.hid hcmp
          clear hcmp hkk
          go_wp2_with (go_at_call 61; refine HC.out.mono ?_; rintro e w' ⟨rfl, rfl⟩)
          go_ret
          obtain ⟨A9, n9, c9, rfl, hn9, hc9⟩ := HF.out.2.shape
          obtain rfl := hn9.out
          rw [hs2.out]
          exact ⟨A9, c9, rfl, hc9, HF.out.2, HF.out.1⟩
        · by_cases hlt : Lt key k
          · rw [cb_lt hlt] at hcmp
            have hs2 := Lib.hid (show all = (pre ++ [⟨k, v, lt.sum seed, rt.sum seed⟩]) ++ lt.shape.prove seed key from by rw [Hst.out, if_neg hkk, if_pos hlt])
            have HC := Lib.hid hcmp
            have hlt2 : lt.size < gk := hdl.1
            clear hcmp hkk hlt
            go_wp2_with (first | (go_at_call 61; refine HC.out.mono ?_; rintro e w' ⟨rfl, rfl⟩) | (go_at_call 71; refine (hsd2.out (-1)).mono ?_; rintro e w' ⟨rfl, rfl⟩; rw [if_pos (by omega)]))
            go_roundg lt.size
            case measure => omega
            case rel => exact ⟨lt, _, rfl, Lib.hid rfl, hs2, Lib.hid hr.out.2.1, Lib.hid HF.out.1, Lib.hid HF.out.2⟩
          · have hgt := (not_lt.1 hlt).resolve_left hkk
            rw [cb_gt hgt] at hcmp
            have hs2 := Lib.hid (show all = (pre ++ [⟨k, v, lt.sum seed, rt.sum seed⟩]) ++ rt.shape.prove seed key from by rw [Hst.out, if_neg hkk, if_neg hlt])
            have HC := Lib.hid hcmp
            have hlt2 : rt.size < gk := hdl.2
            clear hcmp hkk hlt hgt
            go_wp2_with (first | (go_at_call 61; refine HC.out.mono ?_; rintro e w' ⟨rfl, rfl⟩) | (go_at_call 71; refine (hsd2.out 1).mono ?_; rintro e w' ⟨rfl, rfl⟩; rw [if_neg (by omega)]))
            go_roundg rt.size
            case measure => omega
            case rel => exact ⟨rt, _, rfl, Lib.hid rfl, hs2, Lib.hid hr.out.2.2, Lib.hid HF.out.1, Lib.hid HF.out.2⟩

theorem prove_any {base : Nat} {w : World} {seed : Int} {mb : Nat} {l : PairL} {F : List Nat} {A : Option Addr} {n c : Nat} {key : List UInt8} (h : MSt base w mb seed l F) (hk : Bytes base w A n key) (hb : base ≤ w.heap.size) (hsz : l.length ≤ 900000) :
    Calls Try.prog 28 #[.pointer (some ⟨mb, 0, none⟩), .slice A n c] w (RecsRet (SideR base) 29 4 w (proveL seed l key)) :=
  (prove_own h hk hb hsz).mono fun _ _ ⟨A, c, e, hc, ⟨xs, h1, h2⟩, hk⟩ => ⟨A, c, e, hc, ⟨xs, h1, h2.mono (fun _ _ hx => hx.r hb)⟩, hk⟩
end Go.Proofs.Ytdmckjojeddaaaa
