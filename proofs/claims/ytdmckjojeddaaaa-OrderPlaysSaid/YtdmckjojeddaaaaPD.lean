/- Contract of the law's joined. Conditions: each names its own. -/
import Derived.Test.YtdmckjojeddaaaaW2
import Derived.Test.YtdmckjojeddaaaaPB
namespace Go.Proofs.Ytdmckjojeddaaaa
open Go.RowKit Go.Proofs.YtdmckjojeddaaaaKit Go.Proofs.YtdmckjojeddaaaaPlain

theorem info_size_both : (Try.prog.info? 111).map (·.size) = some 5 := by kernel_rfl

/-- Two maps of one seed, and their pairs in two rows. -/
structure BSt (base : Nat) (w0 w : World) (a b : Nat) (seed : Int) (x y : PairL) (F G : List Nat) (xA : Option Addr) (xc : Nat) (yA : Option Addr) (yc : Nat) : Prop where
  two : Two base w0 w a b seed x y F G
  px : Pairs base w xA x.length x
  py : Pairs base w yA y.length y
  cx : x.length ≤ xc
  cy : y.length ≤ yc
section
variable {base : Nat} {w0 w w' : World} {a b : Nat} {seed : Int} {x y : PairL} {F G : List Nat} {xA yA : Option Addr} {xc yc : Nat} {S : Nat → Prop}
theorem BSt.symm (h : BSt base w0 w a b seed x y F G xA xc yA yc) : BSt base w0 w b a seed y x G F yA yc xA xc := ⟨h.two.symm, h.py, h.px, h.cy, h.cx⟩
theorem BSt.new_ (h : BSt base w0 w a b seed x y F G xA xc yA yc) (hk : Keep No w w') : BSt base w0 w' a b seed x y F G xA xc yA yc := ⟨h.two.new_ hk, h.px.new_ hk, h.py.new_ hk, h.cx, h.cy⟩
theorem BSt.lt (h : BSt base w0 w a b seed x y F G xA xc yA yc) {z : Nat} (hz : z ∈ F ∨ z ∈ G) : w0.heap.size ≤ z ∧ z < w.heap.size := by
  rcases hz with hz | hz
  · exact ⟨h.two.fa _ hz, h.two.ma.lt hz⟩
  · exact ⟨h.two.fb _ hz, h.two.mb.lt hz⟩
theorem BSt.fresh (h : BSt base w0 w a b seed x y F G xA xc yA yc) {g : Nat} (hg : w.heap.size ≤ g) : g ∉ F ∧ g ∉ G :=
  ⟨fun hz => by have := (h.lt (.inl hz)).2; omega, fun hz => by have := (h.lt (.inr hz)).2; omega⟩
end

/-- What a step on both hands back. -/
def BRet (base : Nat) (w0 w : World) (F0 G0 : List Nat) (seed : Int) (k : Nat) (e : Ending) (w' : World) : Prop :=
  ∃ a b x y F G xA xc yA yc, e = .returned (.agg #[.pointer (some ⟨a, 0, none⟩), .pointer (some ⟨b, 0, none⟩), .slice xA x.length xc, .slice yA y.length yc, .bool true]) ∧
    BSt base w0 w' a b seed x y F G xA xc yA yc ∧ x.length + y.length ≤ k ∧ Keep (In (F0 ++ G0)) w w' ∧ ∀ z, z ∈ F ∨ z ∈ G → z ∈ F0 ∨ z ∈ G0 ∨ w.heap.size ≤ z

/-! ### Cells of other types -/
section
variable {base : Nat} {w w' : World} {seed : Int} {S : Nat → Prop}
theorem rep_off : ∀ {t : AT}, Rep base w seed t → Keep S w w' → (∀ b ∈ t.blocks, ¬ S b) → Off base 5 w S → Rep base w' seed t
  | .nil, _, _, _, _ => trivial
  | .node b k v l r, h, hk, hb, hi => by
    refine ⟨?_, rep_off h.2.1 hk (fun x hx => hb x (List.mem_cons_of_mem _ (List.mem_append_left _ hx))) hi, rep_off h.2.2 hk (fun x hx => hb x (List.mem_cons_of_mem _ (List.mem_append_right _ hx))) hi⟩
    obtain ⟨h1, h2, A, c, B, d, hB, hA, hV⟩ := h.1
    exact ⟨h1, h2, A, c, B, d, hB.keep hk (hb b List.mem_cons_self), Bytes.off hA hk hi, Bytes.off hV hk hi⟩
theorem MSt.off {mb : Nat} {l : PairL} {F : List Nat} (h : MSt base w mb seed l F) (hk : Keep S w w') (hs : Off base 5 w S) (hd : ∀ b ∈ F, ¬ S b) : MSt base w' mb seed l F := by
  obtain ⟨t, h1, h2, h3, rfl⟩ := h
  exact ⟨t, ⟨h1.has.keep hk (hd mb List.mem_cons_self), rep_off h1.rep hk (fun b hb => hd b (List.mem_cons_of_mem _ hb)) hs, h1.nodup⟩, h2, h3, rfl⟩
theorem Pairs.off {A : Option Addr} {n : Nat} {l : List Pair} (h : Pairs base w A n l) (hk : Keep S w w') (hp : Off base 82 w S) (hs : Off base 5 w S) : Pairs base w' A n l := by
  obtain ⟨xs, h1, h2⟩ := h
  exact ⟨xs, Reads.off h1 hk hp, h2.mono (fun _ _ hx => hx.off hk hs)⟩
theorem BSt.off {w0 : World} {a b : Nat} {x y : PairL} {F G : List Nat} {xA yA : Option Addr} {xc yc : Nat} (h : BSt base w0 w a b seed x y F G xA xc yA yc) (hk : Keep S w w') (hp : Off base 82 w S) (hs : Off base 5 w S)
    (hd : ∀ z, z ∈ F ∨ z ∈ G → ¬ S z) (h0 : ∀ z, S z → w0.heap.size ≤ z) : BSt base w0 w' a b seed x y F G xA xc yA yc :=
  ⟨⟨h.two.ma.off hk hs (fun z hz => hd z (.inl hz)), h.two.mb.off hk hs (fun z hz => hd z (.inr hz)), h.two.apart, h.two.fa, h.two.fb, h.two.keep.trans hk (fun z hz => .inr (h0 z hz))⟩, Pairs.off h.px hk hp hs, Pairs.off h.py hk hp hs, h.cx, h.cy⟩
theorem Off.blk {e t g : Nat} {cs : Array Value} (h : Blk w g t cs) (hb : base ≤ g) (hne : t ≠ e) : Off base e w (fun b => b = g) := fun b hb' => by subst hb'; exact ⟨hb, cs, t, _, h, hne⟩
theorem Off.or {e : Nat} {T : Nat → Prop} (h1 : Off base e w S) (h2 : Off base e w T) : Off base e w (fun b => S b ∨ T b) := fun b hb => hb.elim (h1 b) (h2 b)
/-- Cells of two blocks of the law's own type are written. -/
theorem BSt.cells {w0 : World} {a b : Nat} {x y : PairL} {F G : List Nat} {xA yA : Option Addr} {xc yc : Nat} (h : BSt base w0 w a b seed x y F G xA xc yA yc) {g1 g2 t1 t2 : Nat} {c1 c2 : Array Value} (h1 : Blk w g1 t1 c1) (h2 : Blk w g2 t2 c2)
    (hk : Keep (fun b => b = g1 ∨ b = g2) w w') (hb : base ≤ w0.heap.size) (hg1 : w0.heap.size ≤ g1) (hg2 : w0.heap.size ≤ g2) (hn1 : g1 ∉ F ∧ g1 ∉ G) (hn2 : g2 ∉ F ∧ g2 ∉ G) (e1 : t1 ≠ 82 ∧ t1 ≠ 5) (e2 : t2 ≠ 82 ∧ t2 ≠ 5) : BSt base w0 w' a b seed x y F G xA xc yA yc := by
  refine h.off hk (Off.or (Off.blk h1 (by omega) e1.1) (Off.blk h2 (by omega) e2.1)) (Off.or (Off.blk h1 (by omega) e1.2) (Off.blk h2 (by omega) e2.2)) (fun z hz hS => ?_) (fun z hz => ?_)
  · rcases hS with rfl | rfl
    · exact hz.elim hn1.1 hn1.2
    · exact hz.elim hn2.1 hn2.2
  · rcases hz with rfl | rfl
    · exact hg1
    · exact hg2
end

/-- Five cells of a block are written. -/
theorem keep5 {S : Nat → Prop} {w w' : World} (h : Keep S w w') {g : Nat} (hg : S g ∨ w.heap.size ≤ g) (v0 v1 v2 v3 v4 : Value) : Keep S w (((((w'.setCell ⟨g, 0, none⟩ v0).setCell ⟨g, 1, none⟩ v1).setCell ⟨g, 2, none⟩ v2).setCell ⟨g, 3, none⟩ v3).setCell ⟨g, 4, none⟩ v4) :=
  ((((h.setCell (p := ⟨g, 0, none⟩) hg v0).setCell (p := ⟨g, 1, none⟩) hg v1).setCell (p := ⟨g, 2, none⟩) hg v2).setCell (p := ⟨g, 3, none⟩) hg v3).setCell (p := ⟨g, 4, none⟩) hg v4
theorem blk5 {w : World} {g t : Nat} {u0 u1 u2 u3 u4 : Value} (h : Blk w g t #[u0, u1, u2, u3, u4]) (v0 v1 v2 v3 v4 : Value) : Blk (((((w.setCell ⟨g, 0, none⟩ v0).setCell ⟨g, 1, none⟩ v1).setCell ⟨g, 2, none⟩ v2).setCell ⟨g, 3, none⟩ v3).setCell ⟨g, 4, none⟩ v4) g t #[v0, v1, v2, v3, v4] :=
  ((((h.set_ 0 v0).set_ 1 v1).set_ 2 v2).set_ 3 v3).set_ 4 v4

set_option maxHeartbeats 4000000 in
set_option maxRecDepth 100000 in
theorem joined_on {base : Nat} {w0 w : World} {a b : Nat} {seed : Int} {x y : PairL} {F G : List Nat} {xA yA : Option Addr} {xc yc : Nat} (h : BSt base w0 w a b seed x y F G xA xc yA yc) (hb : base ≤ w0.heap.size) (hsz : x.length + y.length ≤ 40000) :
    Calls Try.prog 94 #[.agg #[.pointer (some ⟨a, 0, none⟩), .pointer (some ⟨b, 0, none⟩), .slice xA x.length xc, .slice yA y.length yc, .bool true], .bool false] w (BRet base w0 w F G seed (x.length + y.length)) := by
  obtain ⟨i0, hi0, hz0, hz1, hz2⟩ := info_parts info_pair
  have hbw : base ≤ w.heap.size := Nat.le_trans hb h.two.keep.size
  have k0 := ((Keep.refl No w).alloc (.cells #[.pointer (some ⟨a, 0, none⟩), .pointer (some ⟨b, 0, none⟩), .slice xA x.length xc, .slice yA y.length yc, .bool true] 111)).alloc (.cells #[.pointer none, .pointer none, .slice none 0 0, .slice none 0 0, .bool false] 111)
  have B2 := (Blk.new w 111 #[.pointer (some ⟨a, 0, none⟩), .pointer (some ⟨b, 0, none⟩), .slice xA x.length xc, .slice yA y.length yc, .bool true]).keep ((Keep.refl No _).alloc (.cells #[.pointer none, .pointer none, .slice none 0 0, .slice none 0 0, .bool false] 111)) (fun x => x)
  have B4 := Blk.new (w.alloc (.cells #[.pointer (some ⟨a, 0, none⟩), .pointer (some ⟨b, 0, none⟩), .slice xA x.length xc, .slice yA y.length yc, .bool true] 111)) 111 #[.pointer none, .pointer none, .slice none 0 0, .slice none 0 0, .bool false]
  have hz : (w.alloc (.cells #[.pointer (some ⟨a, 0, none⟩), .pointer (some ⟨b, 0, none⟩), .slice xA x.length xc, .slice yA y.length yc, .bool true] 111)).heap.size = w.heap.size + 1 := by simp
  rw [hz] at B4
  have f0 := B2.cell 0
  have f1 := B2.cell 1
  have f2 := B2.cell 2
  have f3 := B2.cell 3
  simp only [List.getElem?_toArray, List.getElem?_cons_zero, List.getElem?_cons_succ] at f0 f1 f2 f3
  have HB := Lib.hid (show _ ∧ _ ∧ _ from ⟨B2, B4, k0⟩)
  have hoka := h.two.ma.okay
  have hokb := h.two.mb.okay
  have HJ := Lib.hid (fun W (k : Keep No w W) => join_maps (h.two.ma.new_ k) (h.two.mb.new_ k) h.two.apart (Nat.le_trans hbw k.size) (by omega))
  have HF := Lib.hid (fun W (k : Keep No w W) => rfits_any (b1 := base) (b2 := base) xA yA _ xc _ yc x y W (h.px.new_ k) (h.py.new_ k) hoka.small hokb.small (by omega))
  have H := Lib.hid h
  have HS := Lib.hid (show _ ∧ _ from ⟨hoka.small, hokb.small⟩)
  have hF7 : fitsL x y = 7 ∨ fitsL x y = 0 := by unfold fitsL; split <;> simp
  clear B2 B4 k0 hz h hoka hokb
  go_enter Try.func94, Try.ntmps94
  go_wp2_with fail
  go_quiet (fail)
  generalize hW1 : World.drewN ((w.alloc (.cells #[.pointer (some ⟨a, 0, none⟩), .pointer (some ⟨b, 0, none⟩), .slice xA x.length xc, .slice yA y.length yc, .bool true] 111)).alloc (.cells #[.pointer none, .pointer none, .slice none 0 0, .slice none 0 0, .bool false] 111)) nq = w1
  have k1 : Keep No w w1 := hW1 ▸ HB.out.2.2.drewN nq
  have HB1 := Lib.hid (show Blk w1 w.heap.size 111 #[.pointer (some ⟨a, 0, none⟩), .pointer (some ⟨b, 0, none⟩), .slice xA x.length xc, .slice yA y.length yc, .bool true] ∧ Blk w1 (w.heap.size + 1) 111 #[.pointer none, .pointer none, .slice none 0 0, .slice none 0 0, .bool false] from hW1 ▸ ⟨HB.out.1.keep ((Keep.refl No _).drewN nq) (fun x => x), HB.out.2.1.keep ((Keep.refl No _).drewN nq) (fun x => x)⟩)
  have K1 := Lib.hid k1
  clear hW1 k1 HB f0 f1 f2 f3
  rcases hF7 with h7 | h7
  · have HJ1 := Lib.hid ((HJ.out w1 K1.out).mono (fun e w' hm => hm.1 (by rw [h7]; decide)))
    rw [h7] at HJ1 HF
    clear h7 HJ
    go_wp2_with fail
    refine HJ1.out.mono ?_
    rintro e w2 ⟨rfl, q, rfl⟩
    have K2 := Lib.hid (K1.out.drewN q)
    clear HJ1
    go_wp2_with fail
    refine (HF.out _ K2.out).mono ?_
    rintro e w3 ⟨rfl, q3, rfl⟩
    have K3 := Lib.hid (K1.out.drewN (q + q3))
    have B2 := HB1.out.1.keep ((Keep.refl No w1).drewN (q + q3)) (fun x => x)
    have B4 := HB1.out.2.keep ((Keep.refl No w1).drewN (q + q3)) (fun x => x)
    rw [World.drewN_drewN]
    generalize w1.drewN (q + q3) = w3 at *
    have f0 := B2.cell 0
    have f1 := B2.cell 1
    have f2 := B2.cell 2
    have f3 := B2.cell 3
    have f4 := B2.cell 4
    have z4 := B2.frozen 4
    have g0 := B4.cell 0
    have g1 := B4.cell 1
    have g2 := B4.cell 2
    have g3 := B4.cell 3
    have g4 := B4.cell 4
    have z0 := B4.frozen 0
    have z1 := B4.frozen 1
    have z2 := B4.frozen 2
    have z3 := B4.frozen 3
    have z5 := B4.frozen 4
    simp only [List.getElem?_toArray, List.getElem?_cons_zero, List.getElem?_cons_succ] at f0 f1 f2 f3 f4 g0 g1 g2 g3 g4
    have HB4 := Lib.hid (show _ ∧ _ from ⟨B2, B4⟩)
    clear B2 B4 HB1
    go_wp2
    have B4' := blk5 (HB4.out.2.keep ((Keep.refl (fun b => b = w.heap.size) w3).setCell (p := ⟨w.heap.size, 4, none⟩) (.inl rfl) (.bool true)) (fun e => by omega)) (.pointer (some ⟨a, 0, none⟩)) (.pointer (some ⟨b, 0, none⟩)) (.slice xA x.length xc) (.slice yA y.length yc) (.bool true)
    have KS := keep5 ((Keep.refl (fun b => b = w.heap.size ∨ b = w.heap.size + 1) w3).setCell (p := ⟨w.heap.size, 4, none⟩) (.inl (.inl rfl)) (.bool true)) (g := w.heap.size + 1) (.inl (.inr rfl)) (.pointer (some ⟨a, 0, none⟩)) (.pointer (some ⟨b, 0, none⟩)) (.slice xA x.length xc) (.slice yA y.length yc) (.bool true)
    refine bodyPost_ret (results_cell_row rfl _ _ (w.heap.size + 1) 111 #[.pointer (some ⟨a, 0, none⟩), .pointer (some ⟨b, 0, none⟩), .slice xA x.length xc, .slice yA y.length yc, .bool true] (0, 0) _ rfl B4' Try.underlying111 rfl info_size_both) rfl ?_
    exact ⟨a, b, x, y, F, G, xA, xc, yA, yc, rfl, (H.out.new_ K3.out).cells HB4.out.1 HB4.out.2 KS hb H.out.two.keep.size (Nat.le_succ_of_le H.out.two.keep.size) (H.out.fresh (Nat.le_refl _)) (H.out.fresh (Nat.le_succ _)) (by decide) (by decide), Nat.le_refl _, (K3.out.mono (fun _ x => x.elim)).trans KS (fun z hz => .inr (by rcases hz with rfl | rfl <;> omega)), fun z hz => hz.elim .inl (fun h => .inr (.inl h))⟩
  · have HJ1 := Lib.hid ((HJ.out w1 K1.out).mono (fun e w' hm => hm.2 h7))
    have H7 := Lib.hid h7
    clear h7 HJ HF
    go_wp2_with fail
    refine HJ1.out.mono ?_
    rintro e w2 ⟨cc, HH, rfl, m1, m2, m3, m4, m5, m6, m7⟩
    have hmutF : ∀ z, In (F ++ G) z → Mut base w1 z := fun z hz => (List.mem_append.1 hz).elim (fun hz => (H.out.two.ma.new_ K1.out).mut z hz) (fun hz => (H.out.two.mb.new_ K1.out).mut z hz)
    have hnin : ∀ g, w.heap.size ≤ g → ¬ In (F ++ G) g := fun g hg hz => (List.mem_append.1 hz).elim (H.out.fresh hg).1 (H.out.fresh hg).2
    have px2 := (H.out.px.new_ K1.out).keep m7 hmutF
    have py2 := (H.out.py.new_ K1.out).keep m7 hmutF
    have hlt1 := HB1.out.1.lt
    have hlt2 := HB1.out.2.lt
    have HF2 := Lib.hid (rfits_any (b1 := base) (b2 := base) xA yA _ xc _ yc x y w2 px2 py2 HS.out.1 HS.out.2 (by omega))
    rw [H7.out] at HF2
    have HB2 := Lib.hid (show _ ∧ _ from ⟨HB1.out.1.keep m7 (hnin _ (Nat.le_refl _)), HB1.out.2.keep m7 (hnin _ (Nat.le_succ _))⟩)
    have HM := Lib.hid (show _ ∧ _ ∧ _ ∧ _ ∧ _ ∧ _ ∧ _ ∧ _ ∧ _ from ⟨m1, m2, m3, m4, m5, m6, m7, px2, py2⟩)
    have hb2 : base ≤ w2.heap.size := by have := m7.size; have := K1.out.size; omega
    have hxl : x.length ≤ 40000 := by omega
    have hyl : y.length ≤ 40000 := by omega
    have hxc := H.out.cx
    have hyc := H.out.cy
    clear m1 m2 m3 m4 m5 m6 m7 px2 py2 hmutF hnin HJ1 HB1
    go_wp2_with fail
    refine HF2.out.mono ?_
    rintro e w3 ⟨rfl, q3, rfl⟩
    obtain ⟨ys, hr1, hf1⟩ := HM.out.2.2.2.2.2.2.2.1.new_ ((Keep.refl No w2).drewN q3)
    obtain ⟨zs, hr2, hf2⟩ := HM.out.2.2.2.2.2.2.2.2.new_ ((Keep.refl No w2).drewN q3)
    have hb3 : base ≤ (w2.drewN q3).heap.size := hb2
    have K3 := Lib.hid ((Keep.refl No w2).drewN q3)
    generalize w2.drewN q3 = w3 at *
    have HR1 := Lib.hid (show _ ∧ _ ∧ _ ∧ _ from ⟨hr1, hf1, hr2, hf2⟩)
    have p1 := pairs_one hf1
    have p2 := pairs_one hf2
    clear hr1 hf1 hr2 hf2 HF2
    have P3 := Lib.hid (show Pairs base w3 yA y.length y from ⟨zs, HR1.out.2.2.1, HR1.out.2.2.2⟩)
    go_wp2_with (first
      | (at_builtin; refine wpList_append_any _ rfl (.tmp 48) (.tmp 49) _ rfl w3.heap.size 82 i0 _ 2 48 Try.underlying35 hi0 hz0 hz1 hz2 rfl (by omega) _ 0 [] rfl (World.ownsRow_nil _ _ _ _) base xA x.length xc ys rfl HR1.out.1 p1 (by simp only [maxLen]; omega) (by omega) (Nat.le_refl _) ?_; intro v2 w4 hown2 hg2 hat2; have O2 := OwnP.push (base := base) (l := []) hb3 (World.ownsRow_nil _ _ _ _) Flat.nil (Keep.refl No w3) HR1.out.2.1 rfl hown2 hg2; clear hown2 hg2 hat2; rw [List.nil_append] at O2; obtain ⟨zs', hr7, hf7⟩ := P3.out.new_ O2.keepTo; obtain ⟨xs6, ho6, hf6, hk6⟩ := O2; have H7 := Lib.hid (show _ ∧ _ ∧ _ ∧ _ ∧ _ from ⟨hr7, hf7, ho6, hf6, hk6⟩); clear hr7 hf7 ho6 hf6 hk6 HR1 P3 p1 p2)
      | (at_builtin; refine wpList_append_any _ rfl (.tmp 51) (.tmp 52) _ rfl w3.heap.size 82 i0 _ 2 48 Try.underlying35 hi0 hz0 hz1 hz2 rfl (by omega) _ _ _ rfl H7.out.2.2.1 base _ _ _ _ rfl H7.out.1 (pairs_one H7.out.2.1) (by simp only [maxLen]; omega) (by omega) H7.out.2.2.2.2.size ?_; intro v8 w8 hown8 hg8 hat8; have O8 := OwnP.push (base := base) hb3 H7.out.2.2.1 H7.out.2.2.2.1 H7.out.2.2.2.2 H7.out.2.1 rfl hown8 hg8; clear hown8 hg8 hat8 H7; obtain ⟨A8, n8, c8, rfl, hn8, hc8⟩ := O8.shape; have K8 := Lib.hid (K3.out.trans O8.keepTo (fun _ x => x.elim)); have HO8 := Lib.hid (show _ ∧ _ from ⟨O8, hn8⟩); clear O8 hn8; have hB := HB2.out.1.keep K8.out (fun x => x); have hB' := HB2.out.2.keep K8.out (fun x => x); have f0 := hB.cell 0; have f1 := hB.cell 1; have f2 := hB.cell 2; have f3 := hB.cell 3; have f4 := hB.cell 4; have z0 := hB.frozen 0; have z1 := hB.frozen 1; have z2 := hB.frozen 2; have z3 := hB.frozen 3; have z4 := hB.frozen 4; have g0 := hB'.cell 0; have g1 := hB'.cell 1; have g2 := hB'.cell 2; have g3 := hB'.cell 3; have g4 := hB'.cell 4; have y0 := hB'.frozen 0; have y1 := hB'.frozen 1; have y2 := hB'.frozen 2; have y3 := hB'.frozen 3; have y4 := hB'.frozen 4; simp only [List.getElem?_toArray, List.getElem?_cons_zero, List.getElem?_cons_succ] at f0 f1 f2 f3 f4 g0 g1 g2 g3 g4; have HB8 := Lib.hid (show _ ∧ _ from ⟨hB, hB'⟩); clear hB hB' HB2; have HLA := Lib.hid (len_any (HM.out.2.1.new_ K8.out)); have HLB := Lib.hid (len_any (HM.out.2.2.1.new_ K8.out)))
      | (go_at_call_of 27 (Value.pointer (some ⟨a, 0, none⟩)); refine HLA.out.mono ?_; rintro e w' ⟨rfl, rfl⟩)
      | (go_at_call_of 27 (Value.pointer (some ⟨b, 0, none⟩)); refine HLB.out.mono ?_; rintro e w' ⟨rfl, rfl⟩))
    have hn8 := HO8.out.2.out
    subst hn8
    have haF : a ∈ F := by obtain ⟨_, _, _, _, e⟩ := H.out.two.ma; rw [e]; exact List.mem_cons_self
    have h0F : ∀ z, z ∈ F ++ G → w0.heap.size ≤ z := fun z hz => (List.mem_append.1 hz).elim (H.out.two.fa z) (H.out.two.fb z)
    have hHH : ∀ z ∈ HH, z ∈ F ++ G ∨ w1.heap.size ≤ z := fun z hz => by
      rcases HM.out.2.2.2.2.2.1 z hz with h | h | h
      · exact .inl (by simp [h])
      · exact .inl (by simp [h])
      · exact .inr h
    have k01 := H.out.two.keep.trans K1.out (fun _ x => x.elim)
    have k02 := k01.trans HM.out.2.2.2.2.2.2.1 (fun z hz => .inr (h0F z hz))
    have hww := H.out.two.keep.size
    have hbs : BSt base w0 w8 cc a seed (x ++ y) [] HH [a] A8 c8 none 0 := ⟨⟨HM.out.1.new_ K8.out, HM.out.2.1.new_ K8.out, fun z hz e => by rw [List.mem_singleton] at e; subst e; exact HM.out.2.2.2.1 hz,
      fun z hz => (hHH z hz).elim (h0F z) (fun h => Nat.le_trans k01.size h), fun z hz => by rw [List.mem_singleton] at hz; subst hz; exact H.out.two.fa _ haF, k02.trans K8.out (fun _ x => x.elim)⟩, HO8.out.1.pairs, ⟨[], Reads.none_, Flat.nil⟩, hc8, Nat.le_refl _⟩
    have hfr : ∀ g, w.heap.size ≤ g → g < w1.heap.size → g ∉ HH ∧ g ∉ [a] := fun g hg hg1 => ⟨fun hz => (hHH g hz).elim (fun h => (List.mem_append.1 h).elim (H.out.fresh hg).1 (H.out.fresh hg).2) (fun h => by omega), fun hz => by rw [List.mem_singleton] at hz; subst hz; exact (H.out.fresh hg).1 haF⟩
    have K9 := ((((((Keep.refl (fun b => b = w.heap.size ∨ b = w.heap.size + 1) w8).setCell (p := ⟨w.heap.size, 4, none⟩) (.inl (.inl rfl)) (.bool true)).setCell (p := ⟨w.heap.size, 1, none⟩) (.inl (.inl rfl)) (.pointer (some ⟨a, 0, none⟩))).setCell (p := ⟨w.heap.size, 0, none⟩) (.inl (.inl rfl)) (.pointer (some ⟨cc, 0, none⟩))).setCell (p := ⟨w.heap.size, 2, none⟩) (.inl (.inl rfl)) (.slice A8 (x ++ y).length c8)).setCell (p := ⟨w.heap.size, 3, none⟩) (.inl (.inl rfl)) (.slice none 0 0))
    have K9' := ((((((Keep.refl (fun b => b = w.heap.size) w8).setCell (p := ⟨w.heap.size, 4, none⟩) (.inl rfl) (.bool true)).setCell (p := ⟨w.heap.size, 1, none⟩) (.inl rfl) (.pointer (some ⟨a, 0, none⟩))).setCell (p := ⟨w.heap.size, 0, none⟩) (.inl rfl) (.pointer (some ⟨cc, 0, none⟩))).setCell (p := ⟨w.heap.size, 2, none⟩) (.inl rfl) (.slice A8 (x ++ y).length c8)).setCell (p := ⟨w.heap.size, 3, none⟩) (.inl rfl) (.slice none 0 0))
    have B4' := blk5 (HB8.out.2.keep K9' (fun e => by omega)) (.pointer (some ⟨cc, 0, none⟩)) (.pointer (some ⟨a, 0, none⟩)) (.slice A8 (x ++ y).length c8) (.slice none 0 0) (.bool true)
    have KS := keep5 K9 (g := w.heap.size + 1) (.inl (.inr rfl)) (.pointer (some ⟨cc, 0, none⟩)) (.pointer (some ⟨a, 0, none⟩)) (.slice A8 (x ++ y).length c8) (.slice none 0 0) (.bool true)
    refine bodyPost_ret (results_cell_row rfl _ _ (w.heap.size + 1) 111 #[.pointer (some ⟨cc, 0, none⟩), .pointer (some ⟨a, 0, none⟩), .slice A8 (x ++ y).length c8, .slice none 0 0, .bool true] (0, 0) _ rfl B4' Try.underlying111 rfl info_size_both) rfl ?_
    exact ⟨cc, a, x ++ y, [], HH, [a], A8, c8, none, 0, rfl, hbs.cells HB8.out.1 HB8.out.2 KS hb hww (Nat.le_succ_of_le hww) (hfr _ (Nat.le_refl _) hlt1) (hfr _ (Nat.le_succ _) hlt2) (by decide) (by decide), by simp, ((((K1.out.mono (fun _ x => x.elim) : Keep (In (F ++ G)) w w1).trans HM.out.2.2.2.2.2.2.1 (fun z hz => .inl hz)).trans K8.out (fun _ x => x.elim)).trans KS (fun z hz => .inr (by rcases hz with rfl | rfl <;> omega))), fun z hz => hz.elim (fun h => (hHH z h).elim (fun h => (List.mem_append.1 h).elim .inl (fun h => .inr (.inl h))) (fun h => .inr (.inr (Nat.le_trans K1.out.size h)))) (fun h => by rw [List.mem_singleton] at h; subst h; exact .inl haF)⟩

set_option maxHeartbeats 4000000 in
set_option maxRecDepth 100000 in
theorem joined_back {base : Nat} {w0 w : World} {a b : Nat} {seed : Int} {x y : PairL} {F G : List Nat} {xA yA : Option Addr} {xc yc : Nat} (h : BSt base w0 w a b seed x y F G xA xc yA yc) (hb : base ≤ w0.heap.size) (hsz : x.length + y.length ≤ 40000) :
    Calls Try.prog 94 #[.agg #[.pointer (some ⟨a, 0, none⟩), .pointer (some ⟨b, 0, none⟩), .slice xA x.length xc, .slice yA y.length yc, .bool true], .bool true] w (BRet base w0 w F G seed (x.length + y.length)) := by
  obtain ⟨i0, hi0, hz0, hz1, hz2⟩ := info_parts info_pair
  have hbw : base ≤ w.heap.size := Nat.le_trans hb h.two.keep.size
  have k0 := ((Keep.refl No w).alloc (.cells #[.pointer (some ⟨a, 0, none⟩), .pointer (some ⟨b, 0, none⟩), .slice xA x.length xc, .slice yA y.length yc, .bool true] 111)).alloc (.cells #[.pointer none, .pointer none, .slice none 0 0, .slice none 0 0, .bool false] 111)
  have B2 := (Blk.new w 111 #[.pointer (some ⟨a, 0, none⟩), .pointer (some ⟨b, 0, none⟩), .slice xA x.length xc, .slice yA y.length yc, .bool true]).keep ((Keep.refl No _).alloc (.cells #[.pointer none, .pointer none, .slice none 0 0, .slice none 0 0, .bool false] 111)) (fun x => x)
  have B4 := Blk.new (w.alloc (.cells #[.pointer (some ⟨a, 0, none⟩), .pointer (some ⟨b, 0, none⟩), .slice xA x.length xc, .slice yA y.length yc, .bool true] 111)) 111 #[.pointer none, .pointer none, .slice none 0 0, .slice none 0 0, .bool false]
  have hz : (w.alloc (.cells #[.pointer (some ⟨a, 0, none⟩), .pointer (some ⟨b, 0, none⟩), .slice xA x.length xc, .slice yA y.length yc, .bool true] 111)).heap.size = w.heap.size + 1 := by simp
  rw [hz] at B4
  have f0 := B2.cell 0
  have f1 := B2.cell 1
  have f2 := B2.cell 2
  have f3 := B2.cell 3
  simp only [List.getElem?_toArray, List.getElem?_cons_zero, List.getElem?_cons_succ] at f0 f1 f2 f3
  have HB := Lib.hid (show _ ∧ _ ∧ _ from ⟨B2, B4, k0⟩)
  have hoka := h.two.ma.okay
  have hokb := h.two.mb.okay
  have HJ := Lib.hid (fun W (k : Keep No w W) => join_maps (h.two.mb.new_ k) (h.two.ma.new_ k) h.two.apart.symm (Nat.le_trans hbw k.size) (by omega))
  have HF := Lib.hid (fun W (k : Keep No w W) => rfits_any (b1 := base) (b2 := base) yA xA _ yc _ xc y x W (h.py.new_ k) (h.px.new_ k) hokb.small hoka.small (by omega))
  have H := Lib.hid h
  have HS := Lib.hid (show _ ∧ _ from ⟨hoka.small, hokb.small⟩)
  have hF7 : fitsL y x = 7 ∨ fitsL y x = 0 := by unfold fitsL; split <;> simp
  clear B2 B4 k0 hz h hoka hokb
  go_enter Try.func94, Try.ntmps94
  go_wp2_with fail
  go_quiet (fail)
  generalize hW1 : World.drewN ((w.alloc (.cells #[.pointer (some ⟨a, 0, none⟩), .pointer (some ⟨b, 0, none⟩), .slice xA x.length xc, .slice yA y.length yc, .bool true] 111)).alloc (.cells #[.pointer none, .pointer none, .slice none 0 0, .slice none 0 0, .bool false] 111)) nq = w9
  have k9 : Keep No w w9 := hW1 ▸ HB.out.2.2.drewN nq
  have HB9 := Lib.hid (show Blk w9 w.heap.size 111 #[.pointer (some ⟨a, 0, none⟩), .pointer (some ⟨b, 0, none⟩), .slice xA x.length xc, .slice yA y.length yc, .bool true] ∧ Blk w9 (w.heap.size + 1) 111 #[.pointer none, .pointer none, .slice none 0 0, .slice none 0 0, .bool false] from hW1 ▸ ⟨HB.out.1.keep ((Keep.refl No _).drewN nq) (fun x => x), HB.out.2.1.keep ((Keep.refl No _).drewN nq) (fun x => x)⟩)
  have K9 := Lib.hid k9
  clear hW1 k9 HB f0 f1 f2 f3
  have f0 := HB9.out.1.cell 0
  have f1 := HB9.out.1.cell 1
  have f2 := HB9.out.1.cell 2
  have f3 := HB9.out.1.cell 3
  simp only [List.getElem?_toArray, List.getElem?_cons_zero, List.getElem?_cons_succ] at f0 f1 f2 f3
  go_wp2_with fail
  go_quiet (fail)
  have HB1 := Lib.hid (show _ ∧ _ from ⟨HB9.out.1.keep ((Keep.refl No w9).drewN nq) (fun x => x), HB9.out.2.keep ((Keep.refl No w9).drewN nq) (fun x => x)⟩)
  have K1 := Lib.hid (K9.out.drewN nq)
  clear HB9 f0 f1 f2 f3
  generalize w9.drewN nq = w1 at *
  clear K9
  rcases hF7 with h7 | h7
  · have HJ1 := Lib.hid ((HJ.out w1 K1.out).mono (fun e w' hm => hm.1 (by rw [h7]; decide)))
    rw [h7] at HJ1 HF
    clear h7 HJ
    go_wp2_with fail
    refine HJ1.out.mono ?_
    rintro e w2 ⟨rfl, q, rfl⟩
    have K2 := Lib.hid (K1.out.drewN q)
    clear HJ1
    go_wp2_with fail
    refine (HF.out _ K2.out).mono ?_
    rintro e w3 ⟨rfl, q3, rfl⟩
    have K3 := Lib.hid (K1.out.drewN (q + q3))
    have B2 := HB1.out.1.keep ((Keep.refl No w1).drewN (q + q3)) (fun x => x)
    have B4 := HB1.out.2.keep ((Keep.refl No w1).drewN (q + q3)) (fun x => x)
    rw [World.drewN_drewN]
    generalize w1.drewN (q + q3) = w3 at *
    have f0 := B2.cell 0
    have f1 := B2.cell 1
    have f2 := B2.cell 2
    have f3 := B2.cell 3
    have f4 := B2.cell 4
    have z4 := B2.frozen 4
    have g0 := B4.cell 0
    have g1 := B4.cell 1
    have g2 := B4.cell 2
    have g3 := B4.cell 3
    have g4 := B4.cell 4
    have z0 := B4.frozen 0
    have z1 := B4.frozen 1
    have z2 := B4.frozen 2
    have z3 := B4.frozen 3
    have z5 := B4.frozen 4
    simp only [List.getElem?_toArray, List.getElem?_cons_zero, List.getElem?_cons_succ] at f0 f1 f2 f3 f4 g0 g1 g2 g3 g4
    have HB4 := Lib.hid (show _ ∧ _ from ⟨B2, B4⟩)
    clear B2 B4 HB1
    go_wp2
    have B4' := blk5 (HB4.out.2.keep ((Keep.refl (fun b => b = w.heap.size) w3).setCell (p := ⟨w.heap.size, 4, none⟩) (.inl rfl) (.bool true)) (fun e => by omega)) (.pointer (some ⟨a, 0, none⟩)) (.pointer (some ⟨b, 0, none⟩)) (.slice xA x.length xc) (.slice yA y.length yc) (.bool true)
    have KS := keep5 ((Keep.refl (fun b => b = w.heap.size ∨ b = w.heap.size + 1) w3).setCell (p := ⟨w.heap.size, 4, none⟩) (.inl (.inl rfl)) (.bool true)) (g := w.heap.size + 1) (.inl (.inr rfl)) (.pointer (some ⟨a, 0, none⟩)) (.pointer (some ⟨b, 0, none⟩)) (.slice xA x.length xc) (.slice yA y.length yc) (.bool true)
    refine bodyPost_ret (results_cell_row rfl _ _ (w.heap.size + 1) 111 #[.pointer (some ⟨a, 0, none⟩), .pointer (some ⟨b, 0, none⟩), .slice xA x.length xc, .slice yA y.length yc, .bool true] (0, 0) _ rfl B4' Try.underlying111 rfl info_size_both) rfl ?_
    exact ⟨a, b, x, y, F, G, xA, xc, yA, yc, rfl, (H.out.new_ K3.out).cells HB4.out.1 HB4.out.2 KS hb H.out.two.keep.size (Nat.le_succ_of_le H.out.two.keep.size) (H.out.fresh (Nat.le_refl _)) (H.out.fresh (Nat.le_succ _)) (by decide) (by decide), Nat.le_refl _, (K3.out.mono (fun _ x => x.elim)).trans KS (fun z hz => .inr (by rcases hz with rfl | rfl <;> omega)), fun z hz => hz.elim .inl (fun h => .inr (.inl h))⟩
  · have HJ1 := Lib.hid ((HJ.out w1 K1.out).mono (fun e w' hm => hm.2 h7))
    have H7 := Lib.hid h7
    clear h7 HJ HF
    go_wp2_with fail
    refine HJ1.out.mono ?_
    rintro e w2 ⟨cc, HH, rfl, m1, m2, m3, m4, m5, m6, m7⟩
    have hmutF : ∀ z, In (G ++ F) z → Mut base w1 z := fun z hz => (List.mem_append.1 hz).elim (fun hz => (H.out.two.mb.new_ K1.out).mut z hz) (fun hz => (H.out.two.ma.new_ K1.out).mut z hz)
    have hnin : ∀ g, w.heap.size ≤ g → ¬ In (G ++ F) g := fun g hg hz => (List.mem_append.1 hz).elim (H.out.fresh hg).2 (H.out.fresh hg).1
    have px2 := (H.out.px.new_ K1.out).keep m7 hmutF
    have py2 := (H.out.py.new_ K1.out).keep m7 hmutF
    have hlt1 := HB1.out.1.lt
    have hlt2 := HB1.out.2.lt
    have HF2 := Lib.hid (rfits_any (b1 := base) (b2 := base) yA xA _ yc _ xc y x w2 py2 px2 HS.out.2 HS.out.1 (by omega))
    rw [H7.out] at HF2
    have HB2 := Lib.hid (show _ ∧ _ from ⟨HB1.out.1.keep m7 (hnin _ (Nat.le_refl _)), HB1.out.2.keep m7 (hnin _ (Nat.le_succ _))⟩)
    have HM := Lib.hid (show _ ∧ _ ∧ _ ∧ _ ∧ _ ∧ _ ∧ _ ∧ _ ∧ _ from ⟨m1, m2, m3, m4, m5, m6, m7, py2, px2⟩)
    have hb2 : base ≤ w2.heap.size := by have := m7.size; have := K1.out.size; omega
    have hxl : x.length ≤ 40000 := by omega
    have hyl : y.length ≤ 40000 := by omega
    have hxc := H.out.cx
    have hyc := H.out.cy
    clear m1 m2 m3 m4 m5 m6 m7 px2 py2 hmutF hnin HJ1 HB1
    go_wp2_with fail
    refine HF2.out.mono ?_
    rintro e w3 ⟨rfl, q3, rfl⟩
    obtain ⟨ys, hr1, hf1⟩ := HM.out.2.2.2.2.2.2.2.1.new_ ((Keep.refl No w2).drewN q3)
    obtain ⟨zs, hr2, hf2⟩ := HM.out.2.2.2.2.2.2.2.2.new_ ((Keep.refl No w2).drewN q3)
    have hb3 : base ≤ (w2.drewN q3).heap.size := hb2
    have K3 := Lib.hid ((Keep.refl No w2).drewN q3)
    generalize w2.drewN q3 = w3 at *
    have HR1 := Lib.hid (show _ ∧ _ ∧ _ ∧ _ from ⟨hr1, hf1, hr2, hf2⟩)
    have p1 := pairs_one hf1
    have p2 := pairs_one hf2
    clear hr1 hf1 hr2 hf2 HF2
    have P3 := Lib.hid (show Pairs base w3 xA x.length x from ⟨zs, HR1.out.2.2.1, HR1.out.2.2.2⟩)
    go_wp2_with (first
      | (at_builtin; refine wpList_append_any _ rfl (.tmp 48) (.tmp 49) _ rfl w3.heap.size 82 i0 _ 2 48 Try.underlying35 hi0 hz0 hz1 hz2 rfl (by omega) _ 0 [] rfl (World.ownsRow_nil _ _ _ _) base yA y.length yc ys rfl HR1.out.1 p1 (by simp only [maxLen]; omega) (by omega) (Nat.le_refl _) ?_; intro v2 w4 hown2 hg2 hat2; have O2 := OwnP.push (base := base) (l := []) hb3 (World.ownsRow_nil _ _ _ _) Flat.nil (Keep.refl No w3) HR1.out.2.1 rfl hown2 hg2; clear hown2 hg2 hat2; rw [List.nil_append] at O2; obtain ⟨zs', hr7, hf7⟩ := P3.out.new_ O2.keepTo; obtain ⟨xs6, ho6, hf6, hk6⟩ := O2; have H7 := Lib.hid (show _ ∧ _ ∧ _ ∧ _ ∧ _ from ⟨hr7, hf7, ho6, hf6, hk6⟩); clear hr7 hf7 ho6 hf6 hk6 HR1 P3 p1 p2)
      | (at_builtin; refine wpList_append_any _ rfl (.tmp 51) (.tmp 52) _ rfl w3.heap.size 82 i0 _ 2 48 Try.underlying35 hi0 hz0 hz1 hz2 rfl (by omega) _ _ _ rfl H7.out.2.2.1 base _ _ _ _ rfl H7.out.1 (pairs_one H7.out.2.1) (by simp only [maxLen]; omega) (by omega) H7.out.2.2.2.2.size ?_; intro v8 w8 hown8 hg8 hat8; have O8 := OwnP.push (base := base) hb3 H7.out.2.2.1 H7.out.2.2.2.1 H7.out.2.2.2.2 H7.out.2.1 rfl hown8 hg8; clear hown8 hg8 hat8 H7; obtain ⟨A8, n8, c8, rfl, hn8, hc8⟩ := O8.shape; have K8 := Lib.hid (K3.out.trans O8.keepTo (fun _ x => x.elim)); have HO8 := Lib.hid (show _ ∧ _ from ⟨O8, hn8⟩); clear O8 hn8; have hB := HB2.out.1.keep K8.out (fun x => x); have hB' := HB2.out.2.keep K8.out (fun x => x); have f0 := hB.cell 0; have f1 := hB.cell 1; have f2 := hB.cell 2; have f3 := hB.cell 3; have f4 := hB.cell 4; have z0 := hB.frozen 0; have z1 := hB.frozen 1; have z2 := hB.frozen 2; have z3 := hB.frozen 3; have z4 := hB.frozen 4; have g0 := hB'.cell 0; have g1 := hB'.cell 1; have g2 := hB'.cell 2; have g3 := hB'.cell 3; have g4 := hB'.cell 4; have y0 := hB'.frozen 0; have y1 := hB'.frozen 1; have y2 := hB'.frozen 2; have y3 := hB'.frozen 3; have y4 := hB'.frozen 4; simp only [List.getElem?_toArray, List.getElem?_cons_zero, List.getElem?_cons_succ] at f0 f1 f2 f3 f4 g0 g1 g2 g3 g4; have HB8 := Lib.hid (show _ ∧ _ from ⟨hB, hB'⟩); clear hB hB' HB2; have HLA := Lib.hid (len_any (HM.out.2.2.1.new_ K8.out)); have HLB := Lib.hid (len_any (HM.out.2.1.new_ K8.out)))
      | (go_at_call_of 27 (Value.pointer (some ⟨a, 0, none⟩)); refine HLA.out.mono ?_; rintro e w' ⟨rfl, rfl⟩)
      | (go_at_call_of 27 (Value.pointer (some ⟨b, 0, none⟩)); refine HLB.out.mono ?_; rintro e w' ⟨rfl, rfl⟩))
    have hn8 := HO8.out.2.out
    subst hn8
    have haF : a ∈ F := by obtain ⟨_, _, _, _, e⟩ := H.out.two.ma; rw [e]; exact List.mem_cons_self
    have h0F : ∀ z, z ∈ G ++ F → w0.heap.size ≤ z := fun z hz => (List.mem_append.1 hz).elim (H.out.two.fb z) (H.out.two.fa z)
    have hHH : ∀ z ∈ HH, z ∈ G ++ F ∨ w1.heap.size ≤ z := fun z hz => by
      rcases HM.out.2.2.2.2.2.1 z hz with h | h | h
      · exact .inl (by simp [h])
      · exact .inl (by simp [h])
      · exact .inr h
    have k01 := H.out.two.keep.trans K1.out (fun _ x => x.elim)
    have k02 := k01.trans HM.out.2.2.2.2.2.2.1 (fun z hz => .inr (h0F z hz))
    have hww := H.out.two.keep.size
    have hbs : BSt base w0 w8 cc a seed (y ++ x) [] HH [a] A8 c8 none 0 := ⟨⟨HM.out.1.new_ K8.out, HM.out.2.2.1.new_ K8.out, fun z hz e => by rw [List.mem_singleton] at e; subst e; exact HM.out.2.2.2.2.1 hz,
      fun z hz => (hHH z hz).elim (h0F z) (fun h => Nat.le_trans k01.size h), fun z hz => by rw [List.mem_singleton] at hz; subst hz; exact H.out.two.fa _ haF, k02.trans K8.out (fun _ x => x.elim)⟩, HO8.out.1.pairs, ⟨[], Reads.none_, Flat.nil⟩, hc8, Nat.le_refl _⟩
    have hfr : ∀ g, w.heap.size ≤ g → g < w1.heap.size → g ∉ HH ∧ g ∉ [a] := fun g hg hg1 => ⟨fun hz => (hHH g hz).elim (fun h => (List.mem_append.1 h).elim (H.out.fresh hg).2 (H.out.fresh hg).1) (fun h => by omega), fun hz => by rw [List.mem_singleton] at hz; subst hz; exact (H.out.fresh hg).1 haF⟩
    have K9 := ((((((Keep.refl (fun b => b = w.heap.size ∨ b = w.heap.size + 1) w8).setCell (p := ⟨w.heap.size, 4, none⟩) (.inl (.inl rfl)) (.bool true)).setCell (p := ⟨w.heap.size, 1, none⟩) (.inl (.inl rfl)) (.pointer (some ⟨a, 0, none⟩))).setCell (p := ⟨w.heap.size, 0, none⟩) (.inl (.inl rfl)) (.pointer (some ⟨cc, 0, none⟩))).setCell (p := ⟨w.heap.size, 2, none⟩) (.inl (.inl rfl)) (.slice A8 (y ++ x).length c8)).setCell (p := ⟨w.heap.size, 3, none⟩) (.inl (.inl rfl)) (.slice none 0 0))
    have K9' := ((((((Keep.refl (fun b => b = w.heap.size) w8).setCell (p := ⟨w.heap.size, 4, none⟩) (.inl rfl) (.bool true)).setCell (p := ⟨w.heap.size, 1, none⟩) (.inl rfl) (.pointer (some ⟨a, 0, none⟩))).setCell (p := ⟨w.heap.size, 0, none⟩) (.inl rfl) (.pointer (some ⟨cc, 0, none⟩))).setCell (p := ⟨w.heap.size, 2, none⟩) (.inl rfl) (.slice A8 (y ++ x).length c8)).setCell (p := ⟨w.heap.size, 3, none⟩) (.inl rfl) (.slice none 0 0))
    have B4' := blk5 (HB8.out.2.keep K9' (fun e => by omega)) (.pointer (some ⟨cc, 0, none⟩)) (.pointer (some ⟨a, 0, none⟩)) (.slice A8 (y ++ x).length c8) (.slice none 0 0) (.bool true)
    have KS := keep5 K9 (g := w.heap.size + 1) (.inl (.inr rfl)) (.pointer (some ⟨cc, 0, none⟩)) (.pointer (some ⟨a, 0, none⟩)) (.slice A8 (y ++ x).length c8) (.slice none 0 0) (.bool true)
    refine bodyPost_ret (results_cell_row rfl _ _ (w.heap.size + 1) 111 #[.pointer (some ⟨cc, 0, none⟩), .pointer (some ⟨a, 0, none⟩), .slice A8 (y ++ x).length c8, .slice none 0 0, .bool true] (0, 0) _ rfl B4' Try.underlying111 rfl info_size_both) rfl ?_
    exact ⟨cc, a, y ++ x, [], HH, [a], A8, c8, none, 0, rfl, hbs.cells HB8.out.1 HB8.out.2 KS hb hww (Nat.le_succ_of_le hww) (hfr _ (Nat.le_refl _) hlt1) (hfr _ (Nat.le_succ _) hlt2) (by decide) (by decide), (by simp; omega), ((((K1.out.mono (fun _ x => x.elim) : Keep (In (F ++ G)) w w1).trans HM.out.2.2.2.2.2.2.1 (fun z hz => .inl (by have h : z ∈ G ++ F := hz; show z ∈ F ++ G; simp at h ⊢; exact h.symm))).trans K8.out (fun _ x => x.elim)).trans KS (fun z hz => .inr (by rcases hz with rfl | rfl <;> omega))), fun z hz => hz.elim (fun h => (hHH z h).elim (fun h => (List.mem_append.1 h).elim (fun h => .inr (.inl h)) .inl) (fun h => .inr (.inr (Nat.le_trans K1.out.size h)))) (fun h => by rw [List.mem_singleton] at h; subst h; exact .inl haF)⟩
end Go.Proofs.Ytdmckjojeddaaaa
