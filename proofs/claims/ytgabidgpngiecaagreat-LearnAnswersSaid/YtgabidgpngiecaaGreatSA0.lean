/- The law's same: a model beside the reference. Conditions: each names its own. -/
import Derived.Test.YtgabidgpngiecaaGreatLX0
import Derived.Test.YtgabidgpngiecaaGreatRT3
import Derived.Test.YtgabidgpngiecaaGreatRG0
import Derived.Test.YtgabidgpngiecaaGreatRV0
import Derived.Test.YtgabidgpngiecaaGreatRI0
import Derived.Test.YtgabidgpngiecaaGreatOP0
namespace Go.Proofs.YtgabidgpngiecaaGreat
open Go.RowKit Go.Proofs.YtgabidgpngiecaaGreatKit Go.Proofs.YtgabidgpngiecaaGreatPlain

structure SmS (w W : World) (base B ma ba : Nat) (v : Value) (L0 : List (Row × Nat)) (x : Row) (k by_ of_ deep least : Int) : Prop where
  a : Mdl base W ma ba (expand L0)
  b : RIn B W v (expand L0)
  bs : B ≤ w.heap.size
  q : Blk W w.heap.size 39 #[.int .i64 x.a, .int .i64 x.b, .int .i64 x.c, .int .i64 k, .int .i64 by_, .int .i64 of_, .int .i64 deep, .int .i64 least]
  kp : Keep No w W
theorem SmS.new_ {w W W' : World} {base B ma ba : Nat} {v : Value} {L0 : List (Row × Nat)} {x : Row} {k by_ of_ deep least : Int} (h : SmS w W base B ma ba v L0 x k by_ of_ deep least) (hk : Keep No W W') : SmS w W' base B ma ba v L0 x k by_ of_ deep least := ⟨h.a.new_ hk, h.b.new_ hk, h.bs, h.q.keep hk (fun y => y), h.kp.trans hk (fun _ y => y.elim)⟩
set_option maxHeartbeats 8000000 in
set_option maxRecDepth 100000 in
theorem same_any {w : World} {base B ma ba : Nat} {v : Value} {L0 : List (Row × Nat)} (h : Mdl base w ma ba (expand L0)) (h' : RIn B w v (expand L0)) (hB : B ≤ w.heap.size) (hc0 : Canon L0) (x : Row) (k by_ of_ deep least : Int) (hk : k < 9223372036854775808) :
    Calls Tryz.prog 11 #[.pointer (some ⟨ma, 0, none⟩), v, askV x k by_ of_ deep least] w fun e w' => e = .returned (.bool true) ∧ Keep No w w' := by
  have K0 := (Keep.refl No w).alloc (.cells #[.int .i64 x.a, .int .i64 x.b, .int .i64 x.c, .int .i64 k, .int .i64 by_, .int .i64 of_, .int .i64 deep, .int .i64 least] 39)
  have H0 := Lib.hid (show SmS w (w.alloc (.cells #[.int .i64 x.a, .int .i64 x.b, .int .i64 x.c, .int .i64 k, .int .i64 by_, .int .i64 of_, .int .i64 deep, .int .i64 least] 39)) base B ma ba v L0 x k by_ of_ deep least from ⟨h.new_ K0, h'.new_ K0, hB, Blk.new w _ _, K0⟩)
  have HP := Lib.hid (show _ ∧ _ from ⟨List.Perm.refl (expand L0), hk⟩)
  have HLO := Lib.hid (show _ ∧ _ from ⟨h.len, h.okay⟩)
  have HC0 := Lib.hid (show _ ∧ _ ∧ _ from ⟨hc0, List.Perm.refl (expand L0), List.Perm.refl (expand L0)⟩)
  have HLP := Lib.hid (show ∀ p ∈ L0, 0 < p.2 ∧ okRow p.1 from fun p hp => ⟨hc0.pos p hp, h.okay _ (mem_expand.2 ⟨p.2, hp, hc0.pos p hp⟩)⟩)
  obtain ⟨Av, cv, rfl, _, _⟩ := h'
  clear h hk K0 hc0 hB
  have HL1 := Lib.hid (line_all H0.out.a by_ of_)
  have q4 := H0.out.q.cell 4
  have q5 := H0.out.q.cell 5
  simp only [List.getElem?_toArray, List.getElem?_cons_zero, List.getElem?_cons_succ] at q4 q5
  unfold askV
  go_enter Tryz.func11, Tryz.ntmps11
  go_wp2_with fail
  generalize w.alloc (.cells #[.int .i64 x.a, .int .i64 x.b, .int .i64 x.c, .int .i64 k, .int .i64 by_, .int .i64 of_, .int .i64 deep, .int .i64 least] 39) = w0 at *
  clear q4 q5
  refine HL1.out.mono ?_
  rintro e w1 ⟨hl1, hk1⟩
  obtain ⟨P, Q, P', Q', E, he, mp⟩ := line_shape HLO.out.1 HLO.out.2 hl1
  have HLA := Lib.hid hl1
  have HE := Lib.hid he
  have HM := Lib.hid mp
  have H1 := Lib.hid (H0.out.new_ hk1)
  have H2 := Lib.hid (H1.out.new_ (two_fracs w1 P Q P' Q').2.2)
  have HF1 := Lib.hid (show _ ∧ _ from ⟨(two_fracs w1 P Q P' Q').1, (two_fracs w1 P Q P' Q').2.1⟩)
  have q4 := H2.out.q.cell 4
  have q5 := H2.out.q.cell 5
  simp only [List.getElem?_toArray, List.getElem?_cons_zero, List.getElem?_cons_succ] at q4 q5
  have HL2 := Lib.hid (rline_any by_ of_ H2.out.b HLO.out.2 HLO.out.1)
  rw [he]
  clear hl1 hk1 HL1 he mp H1 H0
  go_wp2_with fail
  clear q4 q5
  generalize (w1.alloc (.cells #[.int .i64 P, .int .i64 Q] 46)).alloc (.cells #[.int .i64 P', .int .i64 Q'] 46) = w2 at *
  generalize w1.heap.size = n1 at *
  refine HL2.out.mono ?_
  rintro e2 w3 ⟨P1, Q1, P2, Q2, E2, rfl, hl2, hk3⟩
  have he2 := (lineall_one HP.out.1 HLA.out hl2).symm.trans HE.out
  injection he2 with he2
  simp only [Value.tuple.injEq, Array.mk.injEq, List.cons.injEq, Value.agg.injEq, Value.int.injEq, true_and, and_true] at he2
  obtain ⟨⟨rfl, rfl⟩, ⟨rfl, rfl⟩, rfl⟩ := he2
  have H3 := Lib.hid (H2.out.new_ hk3)
  have HF2 := Lib.hid (Blk.new w3 56 #[.int .i64 P1, .int .i64 Q1, .int .i64 P2, .int .i64 Q2, .int .i64 E2])
  have ka := (Keep.refl No w3).alloc (.cells #[.int .i64 P1, .int .i64 Q1, .int .i64 P2, .int .i64 Q2, .int .i64 E2] 56)
  have H4 := Lib.hid (H3.out.new_ ka)
  have HF3 := Lib.hid (show _ ∧ _ from ⟨(HF1.out.1.keep hk3 (fun x => x)).keep ka (fun x => x), (HF1.out.2.keep hk3 (fun x => x)).keep ka (fun x => x)⟩)
  clear hl2 hk3 HL2 HLA HE H2 H3 HF1 ka
  have a0 := HF3.out.1.cell 0
  have a1 := HF3.out.1.cell 1
  have a2 := HF3.out.2.cell 0
  have a3 := HF3.out.2.cell 1
  have b0 := HF2.out.cell 0
  have b1 := HF2.out.cell 1
  have b2 := HF2.out.cell 2
  have b3 := HF2.out.cell 3
  have b4 := HF2.out.cell 4
  simp only [List.getElem?_toArray, List.getElem?_cons_zero, List.getElem?_cons_succ] at a0 a1 a2 a3 b0 b1 b2 b3 b4
  have e1 := fun W => eq2 HM.out.1 HM.out.2.1 W
  have e2 := fun W => eq2 HM.out.2.2.1 HM.out.2.2.2 W
  have q6 := H4.out.q.cell 6
  have q7 := H4.out.q.cell 7
  simp only [List.getElem?_toArray, List.getElem?_cons_zero, List.getElem?_cons_succ] at q6 q7
  have HT1 := Lib.hid (tree_all H4.out.a deep least)
  go_wp2_with fail
  clear a0 a1 a2 a3 b0 b1 b2 b3 b4 e1 e2 q6 q7
  generalize w3.alloc (.cells #[.int .i64 P1, .int .i64 Q1, .int .i64 P2, .int .i64 Q2, .int .i64 E2] 56) = w4 at *
  refine HT1.out.mono ?_
  rintro e w5 ht
  obtain ⟨A1, c1, he, ho1, hk5⟩ := tree_got HC0.out.1 HC0.out.2.1 ht
  subst he
  obtain ⟨TT, hTT⟩ : ∃ TT, TT = treeT L0 (expand L0).length deep least := ⟨_, rfl⟩
  obtain ⟨TE, hTE⟩ : ∃ TE, TE = treeEr (expand L0).length deep least := ⟨_, rfl⟩
  rw [← hTT] at ho1
  rw [← hTT, ← hTE]
  have HTF := Lib.hid (show (∀ b ∈ TT, BrFit b) ∧ TT.length ≤ 200 from by rw [hTT]; exact treeT_fit HC0.out.1 HC0.out.2.1 HLO.out.1 HLO.out.2)
  have HO1 := Lib.hid ho1
  have H5 := Lib.hid (H4.out.new_ hk5)
  have HT2 := Lib.hid (rtree_any L0 deep least H5.out.b (Nat.le_trans H5.out.bs H5.out.kp.size) HLP.out HLO.out.1)
  rw [← hTT, ← hTE] at HT2
  have q6 := H5.out.q.cell 6
  have q7 := H5.out.q.cell 7
  simp only [List.getElem?_toArray, List.getElem?_cons_zero, List.getElem?_cons_succ] at q6 q7
  clear ht hTT hTE ho1 hk5 HT1 H4 HF2 HF3
  go_wp2_with fail
  clear q6 q7
  refine HT2.out.mono ?_
  rintro e w6 ⟨v6, rfl, ho2, hk6⟩
  obtain ⟨A2, c2, rfl, _⟩ := own_shape ho2
  have H6 := Lib.hid (H5.out.new_ hk6)
  have HS6 := Lib.hid (same_br (HO1.out.keep hk6 (fun _ _ x => x)) ho2 HTF.out.1 HTF.out.2)
  clear ho2 hk6 HT2 H5 HO1
  go_wp2_with fail
  refine HS6.out.mono ?_
  rintro e w7 ⟨rfl, hk7⟩
  have H7 := Lib.hid (H6.out.new_ hk7)
  have HV1 := Lib.hid (vote_all H7.out.a x k HP.out.2)
  have q0 := H7.out.q.cell 0
  have q1 := H7.out.q.cell 1
  have q2 := H7.out.q.cell 2
  have q3 := H7.out.q.cell 3
  simp only [List.getElem?_toArray, List.getElem?_cons_zero, List.getElem?_cons_succ] at q0 q1 q2 q3
  unfold ptV at HV1
  clear hk7 H6 HS6 HTF
  go_wp2_with fail
  clear q0 q1 q2 q3
  refine HV1.out.mono ?_
  rintro e w8 ⟨hv1, hk8⟩
  obtain ⟨v, ve, he⟩ := vote_shape hv1
  have HVA := Lib.hid hv1
  have HVE := Lib.hid he
  rw [he]
  have H8 := Lib.hid (H7.out.new_ hk8)
  have HV2 := Lib.hid (rvote_any x k H8.out.b (Nat.le_trans H8.out.bs H8.out.kp.size) HLO.out.2 HLO.out.1 HP.out.2)
  have q0 := H8.out.q.cell 0
  have q1 := H8.out.q.cell 1
  have q2 := H8.out.q.cell 2
  have q3 := H8.out.q.cell 3
  simp only [List.getElem?_toArray, List.getElem?_cons_zero, List.getElem?_cons_succ] at q0 q1 q2 q3
  unfold ptV at HV2
  clear hv1 he hk8 HV1 H7
  go_wp2_with fail
  clear q0 q1 q2 q3
  refine HV2.out.mono ?_
  rintro e w9 ⟨hv2, hk9⟩
  rw [(vote_ref HP.out.1 HVA.out hv2).symm.trans HVE.out]
  have H9 := Lib.hid (H8.out.new_ hk9)
  have HG1 := Lib.hid (guess_any H9.out.a x)
  have q0 := H9.out.q.cell 0
  have q1 := H9.out.q.cell 1
  have q2 := H9.out.q.cell 2
  simp only [List.getElem?_toArray, List.getElem?_cons_zero, List.getElem?_cons_succ] at q0 q1 q2
  unfold ptV at HG1
  clear hv2 hk9 HV2 H8 HVA HVE
  obtain ⟨gf, hgf⟩ : ∃ gf, gf = guessF x (expand L0) := ⟨_, rfl⟩
  obtain ⟨ge, hge⟩ : ∃ ge, ge = guessE x (expand L0) := ⟨_, rfl⟩
  have HGP := Lib.hid (show guessF x (expand L0) = gf ∧ guessE x (expand L0) = ge from ⟨hgf.symm, hge.symm⟩)
  rw [← hgf, ← hge] at HG1
  clear hgf hge
  go_wp2_with fail
  clear q0 q1 q2
  refine HG1.out.mono ?_
  rintro e w10 ⟨rfl, hk10⟩
  have H10 := Lib.hid (H9.out.new_ hk10)
  have HG2 := Lib.hid (rguess_any x H10.out.b (Nat.le_trans H10.out.bs H10.out.kp.size) HLO.out.2 HLO.out.1)
  have q0 := H10.out.q.cell 0
  have q1 := H10.out.q.cell 1
  have q2 := H10.out.q.cell 2
  simp only [List.getElem?_toArray, List.getElem?_cons_zero, List.getElem?_cons_succ] at q0 q1 q2
  unfold ptV at HG2
  rw [HGP.out.1, HGP.out.2] at HG2
  clear hk10 HG1 H9
  go_wp2_with fail
  clear q0 q1 q2
  refine HG2.out.mono ?_
  rintro e w11 ⟨rfl, hk11⟩
  have H11 := Lib.hid (H10.out.new_ hk11)
  clear hk11 HG2 H10 HGP
  go_wp2_with fail
  have HNa := Lib.hid (fun W (hW : Keep No w11 W) => mlen_any (H11.out.a.new_ hW))
  have HCa := Lib.hid (fun W (hW : Keep No w11 W) => mcounts_any (H11.out.a.new_ hW))
  have HCb := Lib.hid (fun W (hW : Keep No w11 W) => rcounts_in (H11.out.b.new_ hW) (Nat.le_trans H11.out.bs (Nat.le_trans H11.out.kp.size hW.size)) HLO.out.2 HLO.out.1)
  have HIa := Lib.hid (fun W (hW : Keep No w11 W) => image_str (H11.out.a.new_ hW) HC0.out.1 HC0.out.2.1)
  have HIb := Lib.hid (fun W (hW : Keep No w11 W) => rimage_any (H11.out.b.new_ hW) (Nat.le_trans H11.out.bs (Nat.le_trans H11.out.kp.size hW.size)) HLO.out.2 HLO.out.1 HC0.out.1 rfl)
  have hc8 : ∀ i, cnt8 (expand L0) i ≤ 1000 := fun i => by
    have h1 := cntL_le (expand L0) (i : Int)
    have h2 := HLO.out.1
    unfold cnt8
    omega
  have he8 := fun W => eq8s hc8 W
  generalize cnt8 (expand L0) = cn at *
  generalize imgL L0 = im at *
  generalize (expand L0).length = ln at *
  unfold labV at HCa HCb he8
  have HKW := Lib.hid H11.out.kp
  have K0 := Lib.hid ((Keep.refl No w11).drew)
  clear H11 hc8 HC0 HP HLO
  refine wp_region_noPanic ?_
  refine wp_region_held_drew (S := fun W => Keep No w11 W) (by kernel_rfl) K0.out (fun hHeld => ?_)
  refine wpAnyH_take (i := 0) (oi := ({ dst := some 118, op := Op.move (Operand.tmp 16), type := 33, pos := "law.go:54", after := #[], guard := none } : Oper)) (v := ?_) rfl (by kernel_rfl) (by kernel_rfl) (by kernel_rfl) (fun _ _ _ h => h) (Or.inl ⟨by rfl, ?_⟩) (by assumption) ?_
  rotate_left
  · (intro w hSw; (try dsimp only at hSw); go_simp; try with_reducible rfl)
  (try simp only [Act.put, List.setIfInBounds_toArray, List.set_cons_zero, List.set_cons_succ])
  refine wpAnyH_take (i := 1) (oi := ({ dst := some 119, op := Op.move (Operand.tmp 18), type := 33, pos := "law.go:54", after := #[], guard := none } : Oper)) (v := ?_) rfl (by kernel_rfl) (by kernel_rfl) (by kernel_rfl) (fun _ _ _ h => h) (Or.inl ⟨by rfl, ?_⟩) (by assumption) ?_
  rotate_left
  · (intro w hSw; (try dsimp only at hSw); go_simp; try with_reducible rfl)
  (try simp only [Act.put, List.setIfInBounds_toArray, List.set_cons_zero, List.set_cons_succ])
  refine wpAnyH_take (i := 2) (oi := ({ dst := some 120, op := Op.binOp BinOp.eql 33 (Operand.tmp 118) (Operand.tmp 119) 33, type := 4, pos := "law.go:54", after := #[{ on := 0, ground := Ground.data }, { on := 1, ground := Ground.data }], guard := none } : Oper)) (v := ?_) rfl (by kernel_rfl) (by kernel_rfl) (by kernel_rfl) (fun _ _ _ h => h) (Or.inl ⟨by rfl, ?_⟩) (by assumption) ?_
  rotate_left
  · (intro w hSw; (try dsimp only at hSw); go_simp; try with_reducible rfl)
  (try simp only [Act.put, List.setIfInBounds_toArray, List.set_cons_zero, List.set_cons_succ])
  refine wpAnyH_take (i := 3) (oi := ({ dst := some 121, op := Op.move (Operand.tmp 120), type := 4, pos := "law.go:54", after := #[{ on := 2, ground := Ground.data }], guard := none } : Oper)) (v := ?_) rfl (by kernel_rfl) (by kernel_rfl) (by kernel_rfl) (fun _ _ _ h => h) (Or.inl ⟨by rfl, ?_⟩) (by assumption) ?_
  rotate_left
  · (intro w hSw; (try dsimp only at hSw); go_simp; try with_reducible rfl)
  (try simp only [Act.put, List.setIfInBounds_toArray, List.set_cons_zero, List.set_cons_succ])
  refine wpAnyH_take (i := 4) (oi := ({ dst := some 122, op := Op.move (Operand.tmp 15), type := 3, pos := "law.go:54", after := #[{ on := 3, ground := Ground.guard }], guard := some (3, true) } : Oper)) (v := ?_) rfl (by kernel_rfl) (by kernel_rfl) (by kernel_rfl) (fun _ _ _ h => h) (Or.inl ⟨by rfl, ?_⟩) (by assumption) ?_
  rotate_left
  · (intro w hSw; (try dsimp only at hSw); go_simp; try with_reducible rfl)
  (try simp only [Act.put, List.setIfInBounds_toArray, List.set_cons_zero, List.set_cons_succ])
  refine wpAnyH_take (i := 5) (oi := ({ dst := some 123, op := Op.move (Operand.tmp 17), type := 3, pos := "law.go:54", after := #[{ on := 3, ground := Ground.guard }], guard := some (3, true) } : Oper)) (v := ?_) rfl (by kernel_rfl) (by kernel_rfl) (by kernel_rfl) (fun _ _ _ h => h) (Or.inl ⟨by rfl, ?_⟩) (by assumption) ?_
  rotate_left
  · (intro w hSw; (try dsimp only at hSw); go_simp; try with_reducible rfl)
  (try simp only [Act.put, List.setIfInBounds_toArray, List.set_cons_zero, List.set_cons_succ])
  refine wpAnyH_take (i := 6) (oi := ({ dst := some 124, op := Op.binOp BinOp.eql 3 (Operand.tmp 122) (Operand.tmp 123) 3, type := 4, pos := "law.go:54", after := #[{ on := 4, ground := Ground.data }, { on := 5, ground := Ground.data }, { on := 3, ground := Ground.guard }], guard := some (3, true) } : Oper)) (v := ?_) rfl (by kernel_rfl) (by kernel_rfl) (by kernel_rfl) (fun _ _ _ h => h) (Or.inl ⟨by rfl, ?_⟩) (by assumption) ?_
  rotate_left
  · (intro w hSw; (try dsimp only at hSw); go_simp; try with_reducible rfl)
  (try simp only [Act.put, List.setIfInBounds_toArray, List.set_cons_zero, List.set_cons_succ])
  refine wpAnyH_take (i := 7) (oi := ({ dst := some 125, op := Op.pick (Operand.tmp 121) (Operand.tmp 124) (Operand.const (Value.bool false)), type := 4, pos := "law.go:54", after := #[{ on := 3, ground := Ground.data }, { on := 6, ground := Ground.data }], guard := none } : Oper)) (v := ?_) rfl (by kernel_rfl) (by kernel_rfl) (by kernel_rfl) (fun _ _ _ h => h) (Or.inl ⟨by rfl, ?_⟩) (by assumption) ?_
  rotate_left
  · (intro w hSw; (try dsimp only at hSw); go_simp; try with_reducible rfl)
  (try simp only [Act.put, List.setIfInBounds_toArray, List.set_cons_zero, List.set_cons_succ])
  refine wpAnyH_take (i := 8) (oi := ({ dst := some 126, op := Op.move (Operand.tmp 125), type := 4, pos := "law.go:54", after := #[{ on := 7, ground := Ground.data }, { on := 3, ground := Ground.chain }], guard := none } : Oper)) (v := ?_) rfl (by kernel_rfl) (by kernel_rfl) (by kernel_rfl) (fun _ _ _ h => h) (Or.inl ⟨by rfl, ?_⟩) (by assumption) ?_
  rotate_left
  · (intro w hSw; (try dsimp only at hSw); go_simp; try with_reducible rfl)
  (try simp only [Act.put, List.setIfInBounds_toArray, List.set_cons_zero, List.set_cons_succ])
  refine wpAnyH_take (i := 9) (oi := ({ dst := some 127, op := Op.move (Operand.tmp 0), type := 24, pos := "law.go:54", after := #[{ on := 8, ground := Ground.guard }], guard := some (8, true) } : Oper)) (v := ?_) rfl (by kernel_rfl) (by kernel_rfl) (by kernel_rfl) (fun _ _ _ h => h) (Or.inl ⟨by rfl, ?_⟩) (by assumption) ?_
  rotate_left
  · (intro w hSw; (try dsimp only at hSw); go_simp; try with_reducible rfl)
  (try simp only [Act.put, List.setIfInBounds_toArray, List.set_cons_zero, List.set_cons_succ])
  refine wpAnyH_take (i := 11) (oi := ({ dst := some 129, op := Op.move (Operand.tmp 1), type := 27, pos := "law.go:54", after := #[{ on := 8, ground := Ground.guard }], guard := some (8, true) } : Oper)) (v := ?_) rfl (by kernel_rfl) (by kernel_rfl) (by kernel_rfl) (fun _ _ _ h => h) (Or.inl ⟨by rfl, ?_⟩) (by assumption) ?_
  rotate_left
  · (intro w hSw; (try dsimp only at hSw); go_simp; try with_reducible rfl)
  (try simp only [Act.put, List.setIfInBounds_toArray, List.set_cons_zero, List.set_cons_succ])
  refine wpAnyH_take (i := 12) (oi := ({ dst := some 130, op := Op.call { callee := Callee.builtin Builtin.len, args := #[Operand.tmp 129], argTypes := #[27] }, type := 3, pos := "law.go:54", after := #[{ on := 11, ground := Ground.data }, { on := 8, ground := Ground.guard }], guard := some (8, true) } : Oper)) (v := ?_) rfl (by kernel_rfl) (by kernel_rfl) (by kernel_rfl) (fun _ _ _ h => h) (Or.inl ⟨by rfl, ?_⟩) (by assumption) ?_
  rotate_left
  · (intro w hSw; (try dsimp only at hSw); go_simp; try with_reducible rfl)
  (try simp only [Act.put, List.setIfInBounds_toArray, List.set_cons_zero, List.set_cons_succ])
  refine wpAnyH_ready (rs := [10]) (by kernel_rfl) (by simp) ?_
  refine AllReadyH.cons (o := ({ dst := some 128, op := Op.call { callee := Callee.value (Operand.func 20), args := #[Operand.tmp 127], argTypes := #[24] }, type := 3, pos := "law.go:54", after := #[{ on := 9, ground := Ground.data }, { on := 8, ground := Ground.chain }, { on := 8, ground := Ground.guard }], guard := some (8, true) } : Oper)) rfl (fun K hK => ?_) AllReadyH.nil
  go_simp
  go_at_call 20
  refine (HNa.out _ K0.out).mono ?_
  rintro e w' ⟨rfl, rfl⟩
  go_wp2_with fail
  refine hK.out _ _ (show Keep No w11 _ from K0.out) (fun hH2 => ?_)
  clear hHeld hK
  have hHeld := hH2
  clear hH2 K
  (try simp only [Act.put, List.setIfInBounds_toArray, List.set_cons_zero, List.set_cons_succ])
  refine wpAnyH_take (i := 13) (oi := ({ dst := some 131, op := Op.binOp BinOp.eql 3 (Operand.tmp 128) (Operand.tmp 130) 3, type := 4, pos := "law.go:54", after := #[{ on := 10, ground := Ground.data }, { on := 12, ground := Ground.data }, { on := 8, ground := Ground.guard }], guard := some (8, true) } : Oper)) (v := ?_) rfl (by kernel_rfl) (by kernel_rfl) (by kernel_rfl) (fun _ _ _ h => h) (Or.inl ⟨by rfl, ?_⟩) (by assumption) ?_
  rotate_left
  · (intro w hSw; (try dsimp only at hSw); go_simp; try with_reducible rfl)
  (try simp only [Act.put, List.setIfInBounds_toArray, List.set_cons_zero, List.set_cons_succ])
  refine wpAnyH_take (i := 14) (oi := ({ dst := some 132, op := Op.pick (Operand.tmp 126) (Operand.tmp 131) (Operand.const (Value.bool false)), type := 4, pos := "law.go:54", after := #[{ on := 8, ground := Ground.data }, { on := 13, ground := Ground.data }], guard := none } : Oper)) (v := ?_) rfl (by kernel_rfl) (by kernel_rfl) (by kernel_rfl) (fun _ _ _ h => h) (Or.inl ⟨by rfl, ?_⟩) (by assumption) ?_
  rotate_left
  · (intro w hSw; (try dsimp only at hSw); go_simp; try with_reducible rfl)
  (try simp only [Act.put, List.setIfInBounds_toArray, List.set_cons_zero, List.set_cons_succ])
  refine wpAnyH_take (i := 15) (oi := ({ dst := some 133, op := Op.move (Operand.tmp 132), type := 4, pos := "law.go:54", after := #[{ on := 14, ground := Ground.data }, { on := 10, ground := Ground.chain }], guard := none } : Oper)) (v := ?_) rfl (by kernel_rfl) (by kernel_rfl) (by kernel_rfl) (fun _ _ _ h => h) (Or.inl ⟨by rfl, ?_⟩) (by assumption) ?_
  rotate_left
  · (intro w hSw; (try dsimp only at hSw); go_simp; try with_reducible rfl)
  (try simp only [Act.put, List.setIfInBounds_toArray, List.set_cons_zero, List.set_cons_succ])
  refine wpAnyH_take (i := 16) (oi := ({ dst := some 134, op := Op.move (Operand.tmp 0), type := 24, pos := "law.go:54", after := #[{ on := 15, ground := Ground.guard }], guard := some (15, true) } : Oper)) (v := ?_) rfl (by kernel_rfl) (by kernel_rfl) (by kernel_rfl) (fun _ _ _ h => h) (Or.inl ⟨by rfl, ?_⟩) (by assumption) ?_
  rotate_left
  · (intro w hSw; (try dsimp only at hSw); go_simp; try with_reducible rfl)
  (try simp only [Act.put, List.setIfInBounds_toArray, List.set_cons_zero, List.set_cons_succ])
  refine wpAnyH_take (i := 18) (oi := ({ dst := some 136, op := Op.move (Operand.tmp 1), type := 27, pos := "law.go:54", after := #[{ on := 15, ground := Ground.guard }], guard := some (15, true) } : Oper)) (v := ?_) rfl (by kernel_rfl) (by kernel_rfl) (by kernel_rfl) (fun _ _ _ h => h) (Or.inl ⟨by rfl, ?_⟩) (by assumption) ?_
  rotate_left
  · (intro w hSw; (try dsimp only at hSw); go_simp; try with_reducible rfl)
  (try simp only [Act.put, List.setIfInBounds_toArray, List.set_cons_zero, List.set_cons_succ])
  refine wpAnyH_ready (rs := [17]) (by kernel_rfl) (by simp) ?_
  refine AllReadyH.cons (o := ({ dst := some 135, op := Op.call { callee := Callee.value (Operand.func 21), args := #[Operand.tmp 134], argTypes := #[24] }, type := 62, pos := "law.go:54", after := #[{ on := 16, ground := Ground.data }, { on := 15, ground := Ground.chain }, { on := 15, ground := Ground.guard }], guard := some (15, true) } : Oper)) rfl (fun K hK => ?_) AllReadyH.nil
  go_simp
  go_at_call 21
  refine (HCa.out _ K0.out).mono ?_
  rintro e w12 ⟨rfl, hkc⟩
  have K1 := Lib.hid (K0.out.trans hkc (fun _ x => x.elim))
  clear hkc
  go_wp2_with fail
  refine hK.out _ _ (show Keep No w11 _ from K1.out) (fun hH2 => ?_)
  clear hHeld hK
  have hHeld := hH2
  clear hH2 K
  (try simp only [Act.put, List.setIfInBounds_toArray, List.set_cons_zero, List.set_cons_succ])
  refine wpAnyH_ready (rs := [19]) (by kernel_rfl) (by simp) ?_
  refine AllReadyH.cons (o := ({ dst := some 137, op := Op.call { callee := Callee.value (Operand.func 30), args := #[Operand.tmp 136], argTypes := #[27] }, type := 62, pos := "law.go:54", after := #[{ on := 18, ground := Ground.data }, { on := 17, ground := Ground.chain }, { on := 15, ground := Ground.guard }], guard := some (15, true) } : Oper)) rfl (fun K hK => ?_) AllReadyH.nil
  go_simp
  go_at_call 30
  refine (HCb.out _ K1.out).mono ?_
  rintro e w13 ⟨rfl, hkc⟩
  have K2 := Lib.hid (K1.out.trans hkc (fun _ x => x.elim))
  clear hkc
  go_wp2_with fail
  refine hK.out _ _ (show Keep No w11 _ from K2.out) (fun hH2 => ?_)
  clear hHeld hK
  have hHeld := hH2
  clear hH2 K
  (try simp only [Act.put, List.setIfInBounds_toArray, List.set_cons_zero, List.set_cons_succ])
  refine wpAnyH_take (i := 20) (oi := ({ dst := some 138, op := Op.binOp BinOp.eql 62 (Operand.tmp 135) (Operand.tmp 137) 62, type := 4, pos := "law.go:54", after := #[{ on := 17, ground := Ground.data }, { on := 19, ground := Ground.data }, { on := 15, ground := Ground.guard }], guard := some (15, true) } : Oper)) (v := ?_) rfl (by kernel_rfl) (by kernel_rfl) (by kernel_rfl) (fun _ _ _ h => h) (Or.inl ⟨by rfl, ?_⟩) (by assumption) ?_
  rotate_left
  · (intro w hSw; (try dsimp only at hSw); go_simp; try with_reducible rfl)
  (try simp only [Act.put, List.setIfInBounds_toArray, List.set_cons_zero, List.set_cons_succ])
  refine wpAnyH_take (i := 21) (oi := ({ dst := some 139, op := Op.pick (Operand.tmp 133) (Operand.tmp 138) (Operand.const (Value.bool false)), type := 4, pos := "law.go:54", after := #[{ on := 15, ground := Ground.data }, { on := 20, ground := Ground.data }], guard := none } : Oper)) (v := ?_) rfl (by kernel_rfl) (by kernel_rfl) (by kernel_rfl) (fun _ _ _ h => h) (Or.inl ⟨by rfl, ?_⟩) (by assumption) ?_
  rotate_left
  · (intro w hSw; (try dsimp only at hSw); go_simp; try with_reducible rfl)
  (try simp only [Act.put, List.setIfInBounds_toArray, List.set_cons_zero, List.set_cons_succ])
  refine wpAnyH_take (i := 22) (oi := ({ dst := some 140, op := Op.move (Operand.tmp 139), type := 4, pos := "law.go:54", after := #[{ on := 21, ground := Ground.data }, { on := 19, ground := Ground.chain }], guard := none } : Oper)) (v := ?_) rfl (by kernel_rfl) (by kernel_rfl) (by kernel_rfl) (fun _ _ _ h => h) (Or.inl ⟨by rfl, ?_⟩) (by assumption) ?_
  rotate_left
  · (intro w hSw; (try dsimp only at hSw); go_simp; try with_reducible rfl)
  (try simp only [Act.put, List.setIfInBounds_toArray, List.set_cons_zero, List.set_cons_succ])
  refine wpAnyH_take (i := 23) (oi := ({ dst := some 141, op := Op.move (Operand.tmp 0), type := 24, pos := "law.go:54", after := #[{ on := 22, ground := Ground.guard }], guard := some (22, true) } : Oper)) (v := ?_) rfl (by kernel_rfl) (by kernel_rfl) (by kernel_rfl) (fun _ _ _ h => h) (Or.inl ⟨by rfl, ?_⟩) (by assumption) ?_
  rotate_left
  · (intro w hSw; (try dsimp only at hSw); go_simp; try with_reducible rfl)
  (try simp only [Act.put, List.setIfInBounds_toArray, List.set_cons_zero, List.set_cons_succ])
  refine wpAnyH_take (i := 26) (oi := ({ dst := some 144, op := Op.move (Operand.tmp 1), type := 27, pos := "law.go:54", after := #[{ on := 22, ground := Ground.guard }], guard := some (22, true) } : Oper)) (v := ?_) rfl (by kernel_rfl) (by kernel_rfl) (by kernel_rfl) (fun _ _ _ h => h) (Or.inl ⟨by rfl, ?_⟩) (by assumption) ?_
  rotate_left
  · (intro w hSw; (try dsimp only at hSw); go_simp; try with_reducible rfl)
  (try simp only [Act.put, List.setIfInBounds_toArray, List.set_cons_zero, List.set_cons_succ])
  refine wpAnyH_ready (rs := [24]) (by kernel_rfl) (by simp) ?_
  refine AllReadyH.cons (o := ({ dst := some 142, op := Op.call { callee := Callee.value (Operand.func 22), args := #[Operand.tmp 141], argTypes := #[24] }, type := 64, pos := "law.go:54", after := #[{ on := 23, ground := Ground.data }, { on := 22, ground := Ground.chain }, { on := 22, ground := Ground.guard }], guard := some (22, true) } : Oper)) rfl (fun K hK => ?_) AllReadyH.nil
  go_simp
  go_at_call 22
  refine (HIa.out _ K2.out).mono ?_
  rintro e w14 ⟨A5, n5, c5, rfl, hb5, hkc⟩
  have hcv5 := Bytes.conv (P := Tryz.prog) hb5 c5 Tryz.underlying64 Tryz.underlying5 Tryz.underlying9
  have HB5 := Lib.hid hb5
  have K3 := Lib.hid (K2.out.trans hkc (fun _ x => x.elim))
  clear hkc hb5
  go_wp2_with fail
  refine hK.out _ _ (show Keep No w11 _ from K3.out) (fun hH2 => ?_)
  clear hHeld hK
  have hHeld := hH2
  clear hH2 K
  (try simp only [Act.put, List.setIfInBounds_toArray, List.set_cons_zero, List.set_cons_succ])
  refine wpAnyH_ready (rs := [25, 27]) (by kernel_rfl) (by simp) ?_
  refine AllReadyH.cons (o := ({ dst := some 143, op := Op.convert 64 9 (Operand.tmp 142), type := 9, pos := "law.go:54", after := #[{ on := 24, ground := Ground.data }, { on := 22, ground := Ground.guard }], guard := some (22, true) } : Oper)) rfl (fun K hK => ?_) (AllReadyH.cons (o := ({ dst := some 145, op := Op.call { callee := Callee.value (Operand.func 31), args := #[Operand.tmp 144], argTypes := #[27] }, type := 64, pos := "law.go:54", after := #[{ on := 26, ground := Ground.data }, { on := 24, ground := Ground.chain }, { on := 22, ground := Ground.guard }], guard := some (22, true) } : Oper)) rfl (fun K hK => ?_) AllReadyH.nil)
  · skip
    go_simp
    refine hK.out _ _ (show Keep No w11 _ from K3.out) (fun hH2 => ?_)
    clear hHeld hK
    have hHeld := hH2
    clear hH2 K
    (try simp only [Act.put, List.setIfInBounds_toArray, List.set_cons_zero, List.set_cons_succ])
    refine wpAnyH_ready (rs := [27]) (by kernel_rfl) (by simp) ?_
    refine AllReadyH.cons (o := ({ dst := some 145, op := Op.call { callee := Callee.value (Operand.func 31), args := #[Operand.tmp 144], argTypes := #[27] }, type := 64, pos := "law.go:54", after := #[{ on := 26, ground := Ground.data }, { on := 24, ground := Ground.chain }, { on := 22, ground := Ground.guard }], guard := some (22, true) } : Oper)) rfl (fun K hK => ?_) AllReadyH.nil
    go_simp
    go_at_call 31
    refine (HIb.out _ K3.out).mono ?_
    rintro e w15 ⟨v6, rfl, hb6, hkc⟩
    obtain ⟨A6, c6, rfl, _⟩ := hb6.shape
    have hb7 : Bytes 0 w15 A6 im.length im := hb6.bytes
    have hcv6 := Bytes.conv (P := Tryz.prog) hb7 c6 Tryz.underlying64 Tryz.underlying5 Tryz.underlying9
    have hcv7 := Bytes.conv (P := Tryz.prog) (HB5.out.new_ hkc) c5 Tryz.underlying64 Tryz.underlying5 Tryz.underlying9
    have K4 := Lib.hid (K3.out.trans hkc (fun _ x => x.elim))
    clear hkc hb6 hb7
    go_wp2_with fail
    refine hK.out _ _ (show Keep No w11 _ from K4.out) (fun hH2 => ?_)
    clear hHeld hK
    have hHeld := hH2
    clear hH2 K
    (try simp only [Act.put, List.setIfInBounds_toArray, List.set_cons_zero, List.set_cons_succ])
    refine wpAnyH_ready (rs := [28]) (by kernel_rfl) (by simp) ?_
    refine AllReadyH.cons (o := ({ dst := some 146, op := Op.convert 64 9 (Operand.tmp 145), type := 9, pos := "law.go:54", after := #[{ on := 27, ground := Ground.data }, { on := 22, ground := Ground.guard }], guard := some (22, true) } : Oper)) rfl (fun K hK => ?_) AllReadyH.nil
    go_simp
    refine hK.out _ _ (show Keep No w11 _ from K4.out) (fun hH2 => ?_)
    clear hHeld hK
    have hHeld := hH2
    clear hH2 K
    (try simp only [Act.put, List.setIfInBounds_toArray, List.set_cons_zero, List.set_cons_succ])
    refine wpAnyH_take (i := 29) (oi := ({ dst := some 147, op := Op.binOp BinOp.eql 9 (Operand.tmp 143) (Operand.tmp 146) 9, type := 4, pos := "law.go:54", after := #[{ on := 25, ground := Ground.data }, { on := 28, ground := Ground.data }, { on := 22, ground := Ground.guard }], guard := some (22, true) } : Oper)) (v := ?_) rfl (by kernel_rfl) (by kernel_rfl) (by kernel_rfl) (fun _ _ _ h => h) (Or.inl ⟨by rfl, ?_⟩) (by assumption) ?_
    rotate_left
    · (intro w hSw; (try dsimp only at hSw); go_simp; try with_reducible rfl)
    (try simp only [Act.put, List.setIfInBounds_toArray, List.set_cons_zero, List.set_cons_succ])
    refine wpAnyH_take (i := 30) (oi := ({ dst := some 148, op := Op.pick (Operand.tmp 140) (Operand.tmp 147) (Operand.const (Value.bool false)), type := 4, pos := "law.go:54", after := #[{ on := 22, ground := Ground.data }, { on := 29, ground := Ground.data }], guard := none } : Oper)) (v := ?_) rfl (by kernel_rfl) (by kernel_rfl) (by kernel_rfl) (fun _ _ _ h => h) (Or.inl ⟨by rfl, ?_⟩) (by assumption) ?_
    rotate_left
    · (intro w hSw; (try dsimp only at hSw); go_simp; try with_reducible rfl)
    (try simp only [Act.put, List.setIfInBounds_toArray, List.set_cons_zero, List.set_cons_succ])
    refine wpAnyH_take (i := 31) (oi := ({ dst := some 6, op := Op.assign (Operand.tmp 148), type := 4, pos := "law.go:54", after := #[{ on := 30, ground := Ground.data }, { on := 27, ground := Ground.chain }, { on := 0, ground := Ground.phase }, { on := 1, ground := Ground.phase }, { on := 2, ground := Ground.phase }, { on := 3, ground := Ground.phase }, { on := 4, ground := Ground.phase }, { on := 5, ground := Ground.phase }, { on := 6, ground := Ground.phase }, { on := 7, ground := Ground.phase }, { on := 8, ground := Ground.phase }, { on := 9, ground := Ground.phase }, { on := 10, ground := Ground.phase }, { on := 11, ground := Ground.phase }, { on := 12, ground := Ground.phase }, { on := 13, ground := Ground.phase }, { on := 14, ground := Ground.phase }, { on := 15, ground := Ground.phase }, { on := 16, ground := Ground.phase }, { on := 17, ground := Ground.phase }, { on := 18, ground := Ground.phase }, { on := 19, ground := Ground.phase }, { on := 20, ground := Ground.phase }, { on := 21, ground := Ground.phase }, { on := 22, ground := Ground.phase }, { on := 23, ground := Ground.phase }, { on := 24, ground := Ground.phase }, { on := 25, ground := Ground.phase }, { on := 26, ground := Ground.phase }, { on := 27, ground := Ground.phase }, { on := 28, ground := Ground.phase }, { on := 29, ground := Ground.phase }, { on := 30, ground := Ground.phase }], guard := none } : Oper)) (v := ?_) rfl (by kernel_rfl) (by kernel_rfl) (by kernel_rfl) (fun _ _ _ h => h) (Or.inl ⟨by rfl, ?_⟩) (by assumption) ?_
    rotate_left
    · (intro w hSw; (try dsimp only at hSw); go_simp; try with_reducible rfl)
    (try simp only [Act.put, List.setIfInBounds_toArray, List.set_cons_zero, List.set_cons_succ])
    refine wpAnyH_done (by kernel_rfl) ?_ _
    refine NoPanic.normal ?_
    go_wp2_with fail
    go_ret
    exact ⟨rfl, HKW.out.trans K4.out (fun _ x => x.elim)⟩
  · skip
    go_simp
    go_at_call 31
    refine (HIb.out _ K3.out).mono ?_
    rintro e w15 ⟨v6, rfl, hb6, hkc⟩
    obtain ⟨A6, c6, rfl, _⟩ := hb6.shape
    have hb7 : Bytes 0 w15 A6 im.length im := hb6.bytes
    have hcv6 := Bytes.conv (P := Tryz.prog) hb7 c6 Tryz.underlying64 Tryz.underlying5 Tryz.underlying9
    have hcv7 := Bytes.conv (P := Tryz.prog) (HB5.out.new_ hkc) c5 Tryz.underlying64 Tryz.underlying5 Tryz.underlying9
    have K4 := Lib.hid (K3.out.trans hkc (fun _ x => x.elim))
    clear hkc hb6 hb7
    go_wp2_with fail
    refine hK.out _ _ (show Keep No w11 _ from K4.out) (fun hH2 => ?_)
    clear hHeld hK
    have hHeld := hH2
    clear hH2 K
    (try simp only [Act.put, List.setIfInBounds_toArray, List.set_cons_zero, List.set_cons_succ])
    refine wpAnyH_ready (rs := [25, 28]) (by kernel_rfl) (by simp) ?_
    refine AllReadyH.cons (o := ({ dst := some 143, op := Op.convert 64 9 (Operand.tmp 142), type := 9, pos := "law.go:54", after := #[{ on := 24, ground := Ground.data }, { on := 22, ground := Ground.guard }], guard := some (22, true) } : Oper)) rfl (fun K hK => ?_) (AllReadyH.cons (o := ({ dst := some 146, op := Op.convert 64 9 (Operand.tmp 145), type := 9, pos := "law.go:54", after := #[{ on := 27, ground := Ground.data }, { on := 22, ground := Ground.guard }], guard := some (22, true) } : Oper)) rfl (fun K hK => ?_) AllReadyH.nil)
    · skip
      go_simp
      refine hK.out _ _ (show Keep No w11 _ from K4.out) (fun hH2 => ?_)
      clear hHeld hK
      have hHeld := hH2
      clear hH2 K
      (try simp only [Act.put, List.setIfInBounds_toArray, List.set_cons_zero, List.set_cons_succ])
      refine wpAnyH_ready (rs := [28]) (by kernel_rfl) (by simp) ?_
      refine AllReadyH.cons (o := ({ dst := some 146, op := Op.convert 64 9 (Operand.tmp 145), type := 9, pos := "law.go:54", after := #[{ on := 27, ground := Ground.data }, { on := 22, ground := Ground.guard }], guard := some (22, true) } : Oper)) rfl (fun K hK => ?_) AllReadyH.nil
      go_simp
      refine hK.out _ _ (show Keep No w11 _ from K4.out) (fun hH2 => ?_)
      clear hHeld hK
      have hHeld := hH2
      clear hH2 K
      (try simp only [Act.put, List.setIfInBounds_toArray, List.set_cons_zero, List.set_cons_succ])
      refine wpAnyH_take (i := 29) (oi := ({ dst := some 147, op := Op.binOp BinOp.eql 9 (Operand.tmp 143) (Operand.tmp 146) 9, type := 4, pos := "law.go:54", after := #[{ on := 25, ground := Ground.data }, { on := 28, ground := Ground.data }, { on := 22, ground := Ground.guard }], guard := some (22, true) } : Oper)) (v := ?_) rfl (by kernel_rfl) (by kernel_rfl) (by kernel_rfl) (fun _ _ _ h => h) (Or.inl ⟨by rfl, ?_⟩) (by assumption) ?_
      rotate_left
      · (intro w hSw; (try dsimp only at hSw); go_simp; try with_reducible rfl)
      (try simp only [Act.put, List.setIfInBounds_toArray, List.set_cons_zero, List.set_cons_succ])
      refine wpAnyH_take (i := 30) (oi := ({ dst := some 148, op := Op.pick (Operand.tmp 140) (Operand.tmp 147) (Operand.const (Value.bool false)), type := 4, pos := "law.go:54", after := #[{ on := 22, ground := Ground.data }, { on := 29, ground := Ground.data }], guard := none } : Oper)) (v := ?_) rfl (by kernel_rfl) (by kernel_rfl) (by kernel_rfl) (fun _ _ _ h => h) (Or.inl ⟨by rfl, ?_⟩) (by assumption) ?_
      rotate_left
      · (intro w hSw; (try dsimp only at hSw); go_simp; try with_reducible rfl)
      (try simp only [Act.put, List.setIfInBounds_toArray, List.set_cons_zero, List.set_cons_succ])
      refine wpAnyH_take (i := 31) (oi := ({ dst := some 6, op := Op.assign (Operand.tmp 148), type := 4, pos := "law.go:54", after := #[{ on := 30, ground := Ground.data }, { on := 27, ground := Ground.chain }, { on := 0, ground := Ground.phase }, { on := 1, ground := Ground.phase }, { on := 2, ground := Ground.phase }, { on := 3, ground := Ground.phase }, { on := 4, ground := Ground.phase }, { on := 5, ground := Ground.phase }, { on := 6, ground := Ground.phase }, { on := 7, ground := Ground.phase }, { on := 8, ground := Ground.phase }, { on := 9, ground := Ground.phase }, { on := 10, ground := Ground.phase }, { on := 11, ground := Ground.phase }, { on := 12, ground := Ground.phase }, { on := 13, ground := Ground.phase }, { on := 14, ground := Ground.phase }, { on := 15, ground := Ground.phase }, { on := 16, ground := Ground.phase }, { on := 17, ground := Ground.phase }, { on := 18, ground := Ground.phase }, { on := 19, ground := Ground.phase }, { on := 20, ground := Ground.phase }, { on := 21, ground := Ground.phase }, { on := 22, ground := Ground.phase }, { on := 23, ground := Ground.phase }, { on := 24, ground := Ground.phase }, { on := 25, ground := Ground.phase }, { on := 26, ground := Ground.phase }, { on := 27, ground := Ground.phase }, { on := 28, ground := Ground.phase }, { on := 29, ground := Ground.phase }, { on := 30, ground := Ground.phase }], guard := none } : Oper)) (v := ?_) rfl (by kernel_rfl) (by kernel_rfl) (by kernel_rfl) (fun _ _ _ h => h) (Or.inl ⟨by rfl, ?_⟩) (by assumption) ?_
      rotate_left
      · (intro w hSw; (try dsimp only at hSw); go_simp; try with_reducible rfl)
      (try simp only [Act.put, List.setIfInBounds_toArray, List.set_cons_zero, List.set_cons_succ])
      refine wpAnyH_done (by kernel_rfl) ?_ _
      refine NoPanic.normal ?_
      go_wp2_with fail
      go_ret
      exact ⟨rfl, HKW.out.trans K4.out (fun _ x => x.elim)⟩
    · skip
      go_simp
      refine hK.out _ _ (show Keep No w11 _ from K4.out) (fun hH2 => ?_)
      clear hHeld hK
      have hHeld := hH2
      clear hH2 K
      (try simp only [Act.put, List.setIfInBounds_toArray, List.set_cons_zero, List.set_cons_succ])
      refine wpAnyH_ready (rs := [25]) (by kernel_rfl) (by simp) ?_
      refine AllReadyH.cons (o := ({ dst := some 143, op := Op.convert 64 9 (Operand.tmp 142), type := 9, pos := "law.go:54", after := #[{ on := 24, ground := Ground.data }, { on := 22, ground := Ground.guard }], guard := some (22, true) } : Oper)) rfl (fun K hK => ?_) AllReadyH.nil
      go_simp
      refine hK.out _ _ (show Keep No w11 _ from K4.out) (fun hH2 => ?_)
      clear hHeld hK
      have hHeld := hH2
      clear hH2 K
      (try simp only [Act.put, List.setIfInBounds_toArray, List.set_cons_zero, List.set_cons_succ])
      refine wpAnyH_take (i := 29) (oi := ({ dst := some 147, op := Op.binOp BinOp.eql 9 (Operand.tmp 143) (Operand.tmp 146) 9, type := 4, pos := "law.go:54", after := #[{ on := 25, ground := Ground.data }, { on := 28, ground := Ground.data }, { on := 22, ground := Ground.guard }], guard := some (22, true) } : Oper)) (v := ?_) rfl (by kernel_rfl) (by kernel_rfl) (by kernel_rfl) (fun _ _ _ h => h) (Or.inl ⟨by rfl, ?_⟩) (by assumption) ?_
      rotate_left
      · (intro w hSw; (try dsimp only at hSw); go_simp; try with_reducible rfl)
      (try simp only [Act.put, List.setIfInBounds_toArray, List.set_cons_zero, List.set_cons_succ])
      refine wpAnyH_take (i := 30) (oi := ({ dst := some 148, op := Op.pick (Operand.tmp 140) (Operand.tmp 147) (Operand.const (Value.bool false)), type := 4, pos := "law.go:54", after := #[{ on := 22, ground := Ground.data }, { on := 29, ground := Ground.data }], guard := none } : Oper)) (v := ?_) rfl (by kernel_rfl) (by kernel_rfl) (by kernel_rfl) (fun _ _ _ h => h) (Or.inl ⟨by rfl, ?_⟩) (by assumption) ?_
      rotate_left
      · (intro w hSw; (try dsimp only at hSw); go_simp; try with_reducible rfl)
      (try simp only [Act.put, List.setIfInBounds_toArray, List.set_cons_zero, List.set_cons_succ])
      refine wpAnyH_take (i := 31) (oi := ({ dst := some 6, op := Op.assign (Operand.tmp 148), type := 4, pos := "law.go:54", after := #[{ on := 30, ground := Ground.data }, { on := 27, ground := Ground.chain }, { on := 0, ground := Ground.phase }, { on := 1, ground := Ground.phase }, { on := 2, ground := Ground.phase }, { on := 3, ground := Ground.phase }, { on := 4, ground := Ground.phase }, { on := 5, ground := Ground.phase }, { on := 6, ground := Ground.phase }, { on := 7, ground := Ground.phase }, { on := 8, ground := Ground.phase }, { on := 9, ground := Ground.phase }, { on := 10, ground := Ground.phase }, { on := 11, ground := Ground.phase }, { on := 12, ground := Ground.phase }, { on := 13, ground := Ground.phase }, { on := 14, ground := Ground.phase }, { on := 15, ground := Ground.phase }, { on := 16, ground := Ground.phase }, { on := 17, ground := Ground.phase }, { on := 18, ground := Ground.phase }, { on := 19, ground := Ground.phase }, { on := 20, ground := Ground.phase }, { on := 21, ground := Ground.phase }, { on := 22, ground := Ground.phase }, { on := 23, ground := Ground.phase }, { on := 24, ground := Ground.phase }, { on := 25, ground := Ground.phase }, { on := 26, ground := Ground.phase }, { on := 27, ground := Ground.phase }, { on := 28, ground := Ground.phase }, { on := 29, ground := Ground.phase }, { on := 30, ground := Ground.phase }], guard := none } : Oper)) (v := ?_) rfl (by kernel_rfl) (by kernel_rfl) (by kernel_rfl) (fun _ _ _ h => h) (Or.inl ⟨by rfl, ?_⟩) (by assumption) ?_
      rotate_left
      · (intro w hSw; (try dsimp only at hSw); go_simp; try with_reducible rfl)
      (try simp only [Act.put, List.setIfInBounds_toArray, List.set_cons_zero, List.set_cons_succ])
      refine wpAnyH_done (by kernel_rfl) ?_ _
      refine NoPanic.normal ?_
      go_wp2_with fail
      go_ret
      exact ⟨rfl, HKW.out.trans K4.out (fun _ x => x.elim)⟩
end Go.Proofs.YtgabidgpngiecaaGreat

namespace Go.Proofs.YtgabidgpngiecaaGreat
open Go.RowKit Go.Proofs.YtgabidgpngiecaaGreatKit Go.Proofs.YtgabidgpngiecaaGreatPlain

theorem ins_srt (r : Row) : ∀ {l : List Row}, l.Pairwise (fun p q => ¬ lexLt q p) → (insR r l).Pairwise (fun p q => ¬ lexLt q p)
  | [], _ => List.pairwise_singleton _ _
  | x :: l, h => by
    rw [List.pairwise_cons] at h
    rw [insR]
    split
    · next hlt =>
      refine List.pairwise_cons.2 ⟨fun y hy => ?_, List.pairwise_cons.2 h⟩
      rcases List.mem_cons.1 hy with rfl | hy
      · unfold lexLt at hlt ⊢; omega
      · have := h.1 y hy
        unfold lexLt at hlt this ⊢
        omega
    · next hlt =>
      refine List.pairwise_cons.2 ⟨fun y hy => ?_, ins_srt r h.2⟩
      rcases List.mem_cons.1 ((insR_pm r l).mem_iff.1 hy) with rfl | hy
      · exact hlt
      · exact h.1 y hy
theorem learn_srt (r : Row) {l : List Row} (h : l.Pairwise (fun p q => ¬ lexLt q p)) : (learnL l r).Pairwise (fun p q => ¬ lexLt q p) := by
  unfold learnL
  split
  · split
    · exact h
    · exact ins_srt r h
  · exact h
theorem unl_srt (r : Row) {l : List Row} (h : l.Pairwise (fun p q => ¬ lexLt q p)) : (unlL l r).Pairwise (fun p q => ¬ lexLt q p) := by
  unfold unlL
  split
  · exact h.sublist List.erase_sublist
  · exact h
theorem exp_srt : ∀ {L : List (Row × Nat)}, L.Pairwise (fun p q => ¬ lexLt q.1 p.1) → (expand L).Pairwise (fun p q => ¬ lexLt q p)
  | [], _ => List.Pairwise.nil
  | p :: L, h => by
    rw [List.pairwise_cons] at h
    rw [expand_cons, List.pairwise_append]
    refine ⟨List.pairwise_replicate.2 (.inr (by unfold lexLt; omega)), exp_srt h.2, fun a ha b hb => ?_⟩
    obtain ⟨n, hn, _⟩ := mem_expand.1 hb
    rw [(List.mem_replicate.1 ha).2]
    exact h.1 _ hn
theorem srt_exp {L : List (Row × Nat)} {l : List Row} (hc : Canon L) (hp : (expand L).Perm l) (h : l.Pairwise (fun p q => ¬ lexLt q p)) : expand L = l :=
  List.Perm.eq_of_pairwise (le := fun p q => ¬ lexLt q p) (fun _ _ _ _ h1 h2 => lex_tri h2 h1) (exp_srt hc.sorted) h hp
/-- A model, rows. -/
structure AnS (w W : World) (mb b : Nat) (v : Value) (R L : List Row) : Prop where
  m : Mdl w.heap.size W mb b R
  rw_ : RIn w.heap.size W v L
  kp : Keep No w W
section
variable {w W W' : World} {mb b : Nat} {v v' : Value} {R R' L L' : List Row}
theorem AnS.new_ (h : AnS w W mb b v R L) (hk : Keep No W W') : AnS w W' mb b v R L := ⟨h.m.new_ hk, h.rw_.new_ hk, h.kp.trans hk (fun _ x => x.elim)⟩
theorem AnS.onm (h : AnS w W mb b v R L) (hm : Mdl w.heap.size W' mb b R') (hk : Keep (fun x => x = mb ∨ x = b) W W') : AnS w W' mb b v R' L :=
  ⟨hm, h.rw_.mdl h.m hk, h.kp.trans hk (fun x e => .inr (by rcases e with e | e <;> (subst e; first | exact h.m.ge.1 | exact h.m.ge.2)))⟩
theorem AnS.rows (h : AnS w W mb b v R L) (hr : RIn w.heap.size W' v' L') (hk : Keep No W W') : AnS w W' mb b v' R L' := ⟨h.m.new_ hk, hr, h.kp.trans hk (fun _ x => x.elim)⟩
/-- The law's same, of sorted rows. -/
theorem same_at (h : AnS w W mb b v L L) (hs : L.Pairwise (fun p q => ¬ lexLt q p)) (q : Que) (hk : q.k < 9223372036854775808) :
    Calls Tryz.prog 11 #[.pointer (some ⟨mb, 0, none⟩), v, askV q.x q.k q.by_ q.of_ q.deep q.least] W fun e w' => e = .returned (.bool true) ∧ Keep No W w' := by
  obtain ⟨L0, hc0, hp0⟩ := canon_exists h.m
  have he := srt_exp hc0 hp0 hs
  have hm := h.m
  have hr := h.rw_
  rw [← he] at hm hr
  exact same_any hm hr h.kp.size hc0 q.x q.k q.by_ q.of_ q.deep q.least hk
end
set_option maxHeartbeats 8000000 in
set_option maxRecDepth 100000 in
theorem learnAnswers_walk {base : Nat} {w : World} {A Aq : Option Addr} {c cq : Nat} {ops : List Opn} {qs : List Que} (h : OpsIn base w A ops) (hq : AsksIn base w Aq qs) (hqk : ∀ q ∈ qs, q.k < 9223372036854775808) :
    Calls Tryz.prog 3 #[.slice A ops.length c, .slice Aq qs.length cq] w fun e w' => e = .returned (.bool true) ∧ Keep No w w' := by
  have HP := Lib.hid h
  have HQ := Lib.hid (show _ ∧ _ from ⟨hq, hqk⟩)
  clear h hq hqk
  have HAl := Lib.hid (fun W => alive_any W)
  go_enter Tryz.func3, Tryz.ntmps3
  go_wp2_with fail
  refine (new_any w).mono ?_
  rintro e w2 ⟨rfl, hw1⟩
  have hK1 : Keep No w w2 := hw1 ▸ ((Keep.refl No w).alloc _).alloc _
  have hM1 : Mdl w.heap.size w2 (w.heap.size + 1) w.heap.size [] := hw1 ▸ Mdl.made (Nat.le_refl _)
  have HS0 := Lib.hid (show AnS w w2 (w.heap.size + 1) w.heap.size (.slice none 0 0) [] [] from ⟨hM1, ⟨none, 0, rfl, Nat.le_refl _, Reads.none_⟩, hK1⟩)
  clear hw1 hK1 hM1
  by_cases h300 : 120 < ops.length
  · have hd : decide ((120 : Int) < (ops.length : Int)) = true := decide_eq_true (by omega)
    have hd' : decide (120 < ops.length) = true := decide_eq_true h300
    clear h300
    go_wp2_with fail
    refine (HAl.out _).mono ?_
    rintro e w3 ⟨rfl, hk3⟩
    have HK3 := Lib.hid (HS0.out.kp.trans hk3 (fun _ x => x.elim))
    clear hk3
    go_wp2_with fail
    go_ret
    exact ⟨rfl, HK3.out⟩
  have he : decide ((120 : Int) < (ops.length : Int)) = false := decide_eq_false (by omega)
  have he' : decide (120 < ops.length) = false := decide_eq_false h300
  have HOL := Lib.hid h300
  clear h300
  by_cases h10 : 10 < qs.length
  · have hd : decide ((10 : Int) < (qs.length : Int)) = true := decide_eq_true (by omega)
    have hd' : decide (10 < qs.length) = true := decide_eq_true h10
    clear h10
    go_wp2_with fail
    refine (HAl.out _).mono ?_
    rintro e w3 ⟨rfl, hk3⟩
    have HK3 := Lib.hid (HS0.out.kp.trans hk3 (fun _ x => x.elim))
    clear hk3
    go_wp2_with fail
    go_ret
    exact ⟨rfl, HK3.out⟩
  have hd : decide ((10 : Int) < (qs.length : Int)) = false := decide_eq_false (by omega)
  have hd' : decide (10 < qs.length) = false := decide_eq_false h10
  have HQL := Lib.hid h10
  clear h10
  go_wp2_with fail
  clear hd hd' he he'
  go_loopg [6, 33] ops.length (fun kx s6 s33 wr => ∃ (k : Nat) (L : List Row), s33 = .int .i64 k ∧ k ≤ ops.length ∧ ops.length ≤ k + kx ∧ L.length ≤ k ∧ Hid (L.Pairwise (fun p q => ¬ lexLt q p)) ∧ Hid (AnS w wr (w.heap.size + 1) w.heap.size s6 L L))
  case atStart => exact ⟨0, [], rfl, Nat.zero_le _, by omega, Nat.le_refl _, Lib.hid List.Pairwise.nil, HS0⟩
  case round =>
    clear HS0
    obtain ⟨k, L, rfl, hk, hkx, hLk, HSR0, HS⟩ := hrel
    have j0 : (0 : Int) ≤ (k : Int) := by omega
    by_cases hlt : k < ops.length
    · have j1 : (k : Int) < (ops.length : Int) := by omega
      have hgd : decide ((k : Int) < (ops.length : Int)) = true := decide_eq_true j1
      obtain ⟨ad, hA, e0, e1, e2, e3, e4⟩ := OpsIn.cells (show OpsIn base wr A ops from Reads.new_ HP.out HS.out.kp) hlt
      subst hA
      have hk3 : k < 120 := by have := HOL.out; omega
      have hL3 : L.length ≤ 120 := by omega
      generalize ops[k] = o at *
      obtain ⟨r, gn⟩ := o
      dsimp only at e0 e1 e2 e3 e4
      have HB := Lib.hid (Blk.new wr 32 #[.int .i64 r.a, .int .i64 r.b, .int .i64 r.c, .int .i64 r.l, .bool gn])
      have ka := (Keep.refl No wr).alloc (.cells #[.int .i64 r.a, .int .i64 r.b, .int .i64 r.c, .int .i64 r.l, .bool gn] 32)
      have HS2 := Lib.hid (HS.out.new_ ka)
      clear ka
      cases gn
      · have HLL := Lib.hid (show (learnL L r).length ≤ k + 1 from Nat.le_trans (learnL_length L r) (by omega))
        have HSR := Lib.hid (show (learnL L r).Pairwise (fun p q => ¬ lexLt q p) from learn_srt r HSR0.out)
        have HU := Lib.hid (mlearn_any r HS2.out.m)
        unfold Row.v at HU
        obtain ⟨E, hE⟩ : ∃ E, E = learnE L r := ⟨_, rfl⟩
        have HR0 := Lib.hid (fun W (hW : AnS w W (w.heap.size + 1) w.heap.size u6 (learnL L r) L) => rlearn_any r hW.rw_ hW.kp.size (by omega))
        rw [← hE] at HU HR0
        have hEE : (E != E) = false := by simp
        clear hE
        go_wp2_with fail
        refine HU.out.mono ?_
        rintro e w5 ⟨rfl, hm5, hk5⟩
        have HS5 := Lib.hid (HS2.out.onm hm5 hk5)
        have HB5 := Lib.hid (HB.out.keep hk5 (fun e => e.elim (fun e => absurd HS.out.m.lt.1 (by omega)) (fun e => absurd HS.out.m.lt.2 (by omega))))
        have b0 := HB5.out.cell 0
        have b1 := HB5.out.cell 1
        have b2 := HB5.out.cell 2
        have b3 := HB5.out.cell 3
        simp only [List.getElem?_toArray, List.getElem?_cons_zero, List.getElem?_cons_succ] at b0 b1 b2 b3
        have HR := Lib.hid (HR0.out _ HS5.out)
        unfold Row.v at HR
        clear hm5 hk5 HU HS2 HB HB5 HS e0 e1 e2 e3 e4 HR0
        go_wp2_with fail
        refine HR.out.mono ?_
        rintro e w6 ⟨v6, rfl, hr6, hk6⟩
        have HS6 := Lib.hid (HS5.out.rows hr6 hk6)
        clear b0 b1 b2 b3 hr6 hk6 HR HS5
        generalize learnL L r = L' at *
        have HSM := Lib.hid (fun q hqk => same_at HS6.out HSR.out q hqk)
        by_cases h0 : qs.length = 0
        · have d0 : decide ((0 : Int) < (qs.length : Int)) = false := decide_eq_false (by omega)
          have d0' : decide (0 < qs.length) = false := decide_eq_false (by omega)
          clear h0
          go_wp2_with fail
          go_roundg (ops.length - (k + 1))
          case measure => omega
          case rel => exact ⟨k + 1, L', by go_num, by omega, by omega, HLL.out, HSR, HS6⟩
        · have d0 : decide ((0 : Int) < (qs.length : Int)) = true := decide_eq_true (by omega)
          have d0' : decide (0 < qs.length) = true := decide_eq_true (by omega)
          have hp : 0 < qs.length := by omega
          obtain ⟨kk, hkk⟩ : ∃ kk, kk = k % qs.length := ⟨_, rfl⟩
          have hkl : kk < qs.length := hkk ▸ Nat.mod_lt k hp
          have hx2 : ((k : Nat) : Int).tmod (qs.length : Int) = (kk : Int) := by rw [Int.tmod_eq_emod_of_nonneg (by omega), hkk]; rfl
          have hx3 : IntKind.i64.wrap (kk : Int) = (kk : Int) := fit64 (by omega) (by have := HQL.out; omega)
          have hn0 : ¬ (qs.length : Int) = 0 := by omega
          obtain ⟨ad, hA, e0, e1, e2, e3, e4, e5, e6, e7⟩ := AsksIn.cells (show AsksIn base w6 Aq qs from Reads.new_ HQ.out.1 HS6.out.kp) hkl
          subst hA
          have hqk := HQ.out.2 _ (List.getElem_mem hkl)
          generalize qs[kk] = q at *
          have HEq := Lib.hid (HSM.out q hqk)
          unfold askV at HEq
          have j0' : (0 : Int) ≤ (kk : Int) := by omega
          have j1' : (kk : Int) < (qs.length : Int) := by omega
          clear h0 hkk hqk HSM
          go_wp2_with fail
          refine HEq.out.mono ?_
          rintro e w7 ⟨rfl, hk7⟩
          have HS7 := Lib.hid (HS6.out.new_ hk7)
          clear hk7 HEq HS6 e0 e1 e2 e3 e4 e5 e6 e7
          go_wp2_with fail
          go_roundg (ops.length - (k + 1))
          case measure => omega
          case rel => exact ⟨k + 1, L', by go_num, by omega, by omega, HLL.out, HSR, HS7⟩
      · have HLL := Lib.hid (show (unlL L r).length ≤ k + 1 from Nat.le_trans (unlL_length L r) (by omega))
        have HSR := Lib.hid (show (unlL L r).Pairwise (fun p q => ¬ lexLt q p) from unl_srt r HSR0.out)
        have HU := Lib.hid (munlearn_any r HS2.out.m)
        unfold Row.v at HU
        obtain ⟨E, hE⟩ : ∃ E, E = unlE L r := ⟨_, rfl⟩
        have HR0 := Lib.hid (fun W (hW : AnS w W (w.heap.size + 1) w.heap.size u6 (unlL L r) L) => runlearn_any r hW.rw_ HS2.out.m.okay (by omega))
        rw [← hE] at HU HR0
        have hEE : (E != E) = false := by simp
        clear hE
        go_wp2_with fail
        refine HU.out.mono ?_
        rintro e w5 ⟨rfl, hm5, hk5⟩
        have HS5 := Lib.hid (HS2.out.onm hm5 hk5)
        have HB5 := Lib.hid (HB.out.keep hk5 (fun e => e.elim (fun e => absurd HS.out.m.lt.1 (by omega)) (fun e => absurd HS.out.m.lt.2 (by omega))))
        have b0 := HB5.out.cell 0
        have b1 := HB5.out.cell 1
        have b2 := HB5.out.cell 2
        have b3 := HB5.out.cell 3
        simp only [List.getElem?_toArray, List.getElem?_cons_zero, List.getElem?_cons_succ] at b0 b1 b2 b3
        have HR := Lib.hid (HR0.out _ HS5.out)
        unfold Row.v at HR
        clear hm5 hk5 HU HS2 HB HB5 HS e0 e1 e2 e3 e4 HR0
        go_wp2_with fail
        refine HR.out.mono ?_
        rintro e w6 ⟨v6, rfl, hr6, hk6⟩
        have HS6 := Lib.hid (HS5.out.rows hr6 hk6)
        clear b0 b1 b2 b3 hr6 hk6 HR HS5
        generalize unlL L r = L' at *
        have HSM := Lib.hid (fun q hqk => same_at HS6.out HSR.out q hqk)
        by_cases h0 : qs.length = 0
        · have d0 : decide ((0 : Int) < (qs.length : Int)) = false := decide_eq_false (by omega)
          have d0' : decide (0 < qs.length) = false := decide_eq_false (by omega)
          clear h0
          go_wp2_with fail
          go_roundg (ops.length - (k + 1))
          case measure => omega
          case rel => exact ⟨k + 1, L', by go_num, by omega, by omega, HLL.out, HSR, HS6⟩
        · have d0 : decide ((0 : Int) < (qs.length : Int)) = true := decide_eq_true (by omega)
          have d0' : decide (0 < qs.length) = true := decide_eq_true (by omega)
          have hp : 0 < qs.length := by omega
          obtain ⟨kk, hkk⟩ : ∃ kk, kk = k % qs.length := ⟨_, rfl⟩
          have hkl : kk < qs.length := hkk ▸ Nat.mod_lt k hp
          have hx2 : ((k : Nat) : Int).tmod (qs.length : Int) = (kk : Int) := by rw [Int.tmod_eq_emod_of_nonneg (by omega), hkk]; rfl
          have hx3 : IntKind.i64.wrap (kk : Int) = (kk : Int) := fit64 (by omega) (by have := HQL.out; omega)
          have hn0 : ¬ (qs.length : Int) = 0 := by omega
          obtain ⟨ad, hA, e0, e1, e2, e3, e4, e5, e6, e7⟩ := AsksIn.cells (show AsksIn base w6 Aq qs from Reads.new_ HQ.out.1 HS6.out.kp) hkl
          subst hA
          have hqk := HQ.out.2 _ (List.getElem_mem hkl)
          generalize qs[kk] = q at *
          have HEq := Lib.hid (HSM.out q hqk)
          unfold askV at HEq
          have j0' : (0 : Int) ≤ (kk : Int) := by omega
          have j1' : (kk : Int) < (qs.length : Int) := by omega
          clear h0 hkk hqk HSM
          go_wp2_with fail
          refine HEq.out.mono ?_
          rintro e w7 ⟨rfl, hk7⟩
          have HS7 := Lib.hid (HS6.out.new_ hk7)
          clear hk7 HEq HS6 e0 e1 e2 e3 e4 e5 e6 e7
          go_wp2_with fail
          go_roundg (ops.length - (k + 1))
          case measure => omega
          case rel => exact ⟨k + 1, L', by go_num, by omega, by omega, HLL.out, HSR, HS7⟩
    · obtain rfl : k = ops.length := by omega
      have hgd : decide ((ops.length : Int) < (ops.length : Int)) = false := decide_eq_false (by omega)
      go_wp2_with fail
      go_loopg [86] qs.length (fun ky s86 wr => ∃ k : Nat, s86 = .int .i64 k ∧ k ≤ qs.length ∧ qs.length ≤ k + ky ∧ Hid (AnS w wr (w.heap.size + 1) w.heap.size u6 L L))
      case atStart => exact ⟨0, rfl, Nat.zero_le _, by omega, HS⟩
      case round =>
        clear HS
        obtain ⟨k, rfl, hk, hky, HE⟩ := hrel
        by_cases hlt : k < qs.length
        · obtain ⟨ad, hA, e0, e1, e2, e3, e4, e5, e6, e7⟩ := AsksIn.cells (show AsksIn base wr Aq qs from Reads.new_ HQ.out.1 HE.out.kp) hlt
          subst hA
          have hqk := HQ.out.2 _ (List.getElem_mem hlt)
          generalize qs[k] = q at *
          have ka := (Keep.refl No wr).alloc (.cells #[.int .i64 q.x.a, .int .i64 q.x.b, .int .i64 q.x.c, .int .i64 q.k, .int .i64 q.by_, .int .i64 q.of_, .int .i64 q.deep, .int .i64 q.least] 39)
          have HE2 := Lib.hid (HE.out.new_ ka)
          have HEq := Lib.hid (same_at HE2.out HSR0.out q hqk)
          unfold askV at HEq
          have j0 : (0 : Int) ≤ (k : Int) := by omega
          have j1 : (k : Int) < (qs.length : Int) := by omega
          have hk5 : k < 500 := by have := HQL.out; omega
          clear ka HE hqk
          go_wp2_with fail
          refine HEq.out.mono ?_
          rintro e w7 ⟨rfl, hk7⟩
          have HE7 := Lib.hid (HE2.out.new_ hk7)
          clear hk7 HE2 HEq e0 e1 e2 e3 e4 e5 e6 e7
          go_wp2_with fail
          go_roundg (qs.length - (k + 1))
          case measure => omega
          case rel => exact ⟨k + 1, by go_num, by omega, by omega, HE7⟩
        · obtain rfl : k = qs.length := by omega
          go_wp2_with fail
          refine (HAl.out _).mono ?_
          rintro e w3 ⟨rfl, hk3⟩
          have HK3 := Lib.hid (HE.out.kp.trans hk3 (fun _ x => x.elim))
          clear hk3
          go_wp2_with fail
          go_ret
          exact ⟨rfl, HK3.out⟩
end Go.Proofs.YtgabidgpngiecaaGreat
