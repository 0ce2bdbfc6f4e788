/- Contract of the law's done. Conditions: each names its own. -/
import Derived.Test.YtdmckjojeddaaaaPC
import Derived.Test.YtdmckjojeddaaaaPD
namespace Go.Proofs.Ytdmckjojeddaaaa
open Go.RowKit Go.Proofs.YtdmckjojeddaaaaKit Go.Proofs.YtdmckjojeddaaaaPlain

theorem asked_any {base : Nat} {w : World} {seed : Int} {mb : Nat} {l : PairL} {F : List Nat} {Lp : Option Addr} {m d : Nat} {A : Option Addr} {n c : Nat} {V : Option Addr} {vn vc : Nat} {B : Option Addr} {n2 c2 : Nat} {bd : Bool} {N : Int} {key high : List UInt8}
    (h : MSt base w mb seed l F) (hl : Pairs base w Lp m l) (hmd : m ≤ d) (hk : Bytes base w A n key) (hk2 : Bytes base w B n2 high) (hb : base ≤ w.heap.size) (hsz : l.length ≤ 40000) (hn : n ≤ 1000000) (hn2 : n2 ≤ 1000000) (kind : Int) :
    Calls Try.prog 95 #[.pointer (some ⟨mb, 0, none⟩), .int .u64 seed, .slice Lp m d, .agg #[.int .i64 kind, .slice A n c, .slice V vn vc, .slice B n2 c2, .bool bd, .int .i64 N]] w fun e w' => e = .returned (.bool true) ∧ Keep No w w' := by
  by_cases h2 : kind = 2
  · subst h2; exact asked2 h hl hmd hk hk2 hb hsz hn hn2
  by_cases h3 : kind = 3
  · subst h3; exact asked3 h hl hmd hk hk2 hb hsz hn hn2
  by_cases h4 : kind = 4
  · subst h4; exact asked4 h hl hmd hk hk2 hb hsz hn hn2
  by_cases h5 : kind = 5
  · subst h5; exact asked5 h hl hmd hk hk2 hb hsz hn hn2
  by_cases h6 : kind = 6
  · subst h6; exact asked6 h hl hmd hk hk2 hb hsz hn hn2
  by_cases h7 : kind = 7
  · subst h7; exact asked7 h hl hmd hk hk2 hb hsz hn hn2
  exact askedO h hl hmd hk hk2 hb hsz hn hn2 ⟨h2, h3, h4, h5, h6, h7⟩

/-- The three blocks of done. -/
structure D3 (w : World) (cs3 cs5 cs6 : Array Value) (W : World) : Prop where
  b3 : Blk W w.heap.size 111 cs3
  b5 : Blk W (w.heap.size + 1) 113 cs5
  b6 : Blk W (w.heap.size + 1 + 1) 111 cs6
theorem D3.keep {w W W' : World} {cs3 cs5 cs6 : Array Value} {S : Nat → Prop} (h : D3 w cs3 cs5 cs6 W) (hk : Keep S W W') (hs : ∀ g, w.heap.size ≤ g → ¬ S g) : D3 w cs3 cs5 cs6 W' :=
  ⟨h.b3.keep hk (hs _ (Nat.le_refl _)), h.b5.keep hk (hs _ (Nat.le_succ _)), h.b6.keep hk (hs _ (by omega))⟩
theorem D3.start (w : World) (cs3 cs5 cs6 : Array Value) : D3 w cs3 cs5 cs6 (((w.alloc (.cells cs3 111)).alloc (.cells cs5 113)).alloc (.cells cs6 111)) ∧ Keep No w (((w.alloc (.cells cs3 111)).alloc (.cells cs5 113)).alloc (.cells cs6 111)) := by
  have h1 := Blk.new w 111 cs3
  have h2 := Blk.new (w.alloc (.cells cs3 111)) 113 cs5
  have h3 := Blk.new ((w.alloc (.cells cs3 111)).alloc (.cells cs5 113)) 111 cs6
  have e1 : (w.alloc (.cells cs3 111)).heap.size = w.heap.size + 1 := by simp
  have e2 : ((w.alloc (.cells cs3 111)).alloc (.cells cs5 113)).heap.size = w.heap.size + 1 + 1 := by simp
  rw [e1] at h2
  rw [e2] at h3
  exact ⟨⟨(h1.keep ((Keep.refl No _).alloc _) (fun x => x)).keep ((Keep.refl No _).alloc _) (fun x => x), h2.keep ((Keep.refl No _).alloc _) (fun x => x), h3⟩, (((Keep.refl No w).alloc _).alloc _).alloc _⟩
theorem D3.set3 {w W : World} {cs3 cs5 cs6 : Array Value} (d : D3 w cs3 cs5 cs6 W) (i : Nat) (v : Value) : D3 w (cs3.setIfInBounds i v) cs5 cs6 (W.setCell ⟨w.heap.size, i, none⟩ v) :=
  have hk := (Keep.refl (fun b => b = w.heap.size) W).setCell (p := ⟨w.heap.size, i, none⟩) (.inl rfl) v
  ⟨d.b3.set_ i v, d.b5.keep hk (fun e => by omega), d.b6.keep hk (fun e => by omega)⟩
theorem BSt.set3 {base : Nat} {w0 w W : World} {seed : Int} {a b : Nat} {x y : PairL} {F G : List Nat} {xA yA : Option Addr} {xc yc : Nat} {cs3 cs5 cs6 : Array Value} (h : BSt base w0 W a b seed x y F G xA xc yA yc) (d : D3 w cs3 cs5 cs6 W) (hb : base ≤ w0.heap.size) (hw : w0.heap.size ≤ w.heap.size)
    (hf : ∀ g, w.heap.size ≤ g → g < w.heap.size + 3 → g ∉ F ∧ g ∉ G) (i : Nat) (v : Value) : BSt base w0 (W.setCell ⟨w.heap.size, i, none⟩ v) a b seed x y F G xA xc yA yc :=
  h.cells d.b3 d.b3 ((Keep.refl (fun z => z = w.heap.size ∨ z = w.heap.size) W).setCell (p := ⟨w.heap.size, i, none⟩) (.inl (.inl rfl)) v) hb hw hw (hf _ (Nat.le_refl _) (by omega)) (hf _ (Nat.le_refl _) (by omega)) (by decide) (by decide)
/-- The end of done: the state in the first block goes to the last one. -/
theorem D3.fin {base : Nat} {w0 w W : World} {seed : Int} {a b : Nat} {x y : PairL} {F G : List Nat} {xA yA : Option Addr} {xc yc k : Nat} {cs3 cs5 : Array Value} {u0 u1 u2 u3 u4 : Value}
    (d : D3 w cs3 cs5 #[u0, u1, u2, u3, u4] W) (h : BSt base w0 W a b seed x y F G xA xc yA yc) (hb : base ≤ w0.heap.size) (hw : w0.heap.size ≤ w.heap.size) (hf : ∀ g, w.heap.size ≤ g → g < w.heap.size + 3 → g ∉ F ∧ g ∉ G) (hk : x.length + y.length ≤ k) {F0 G0 : List Nat} (hkp : Keep (In (F0 ++ G0)) w W) (hmem : ∀ z, z ∈ F ∨ z ∈ G → z ∈ F0 ∨ z ∈ G0 ∨ w.heap.size ≤ z) {tmps : Array Value} (ht : tmps.getD 6 undef = .pointer (some ⟨w.heap.size + 1 + 1, 0, none⟩)) :
    bodyPost Try.prog Try.f59 (BRet base w0 w F0 G0 seed k) .ret { tmps := tmps, defers := [] } (((((W.setCell ⟨w.heap.size + 1 + 1, 0, none⟩ (.pointer (some ⟨a, 0, none⟩))).setCell ⟨w.heap.size + 1 + 1, 1, none⟩ (.pointer (some ⟨b, 0, none⟩))).setCell ⟨w.heap.size + 1 + 1, 2, none⟩ (.slice xA x.length xc)).setCell ⟨w.heap.size + 1 + 1, 3, none⟩ (.slice yA y.length yc)).setCell ⟨w.heap.size + 1 + 1, 4, none⟩ (.bool true)) := by
  have B := blk5 d.b6 (.pointer (some ⟨a, 0, none⟩)) (.pointer (some ⟨b, 0, none⟩)) (.slice xA x.length xc) (.slice yA y.length yc) (.bool true)
  have KS := keep5 (Keep.refl (fun z => z = w.heap.size + 1 + 1 ∨ z = w.heap.size + 1 + 1) W) (g := w.heap.size + 1 + 1) (.inl (.inl rfl)) (.pointer (some ⟨a, 0, none⟩)) (.pointer (some ⟨b, 0, none⟩)) (.slice xA x.length xc) (.slice yA y.length yc) (.bool true)
  refine bodyPost_ret (results_cell_row rfl _ _ (w.heap.size + 1 + 1) 111 #[.pointer (some ⟨a, 0, none⟩), .pointer (some ⟨b, 0, none⟩), .slice xA x.length xc, .slice yA y.length yc, .bool true] (0, 0) _ ht B Try.underlying111 rfl info_size_both) rfl ?_
  exact ⟨a, b, x, y, F, G, xA, xc, yA, yc, rfl, h.cells d.b6 d.b6 KS hb (by omega) (by omega) (hf _ (by omega) (by omega)) (hf _ (by omega) (by omega)) (by decide) (by decide), hk, hkp.trans KS (fun z hz => .inr (by rcases hz with rfl | rfl <;> omega)), hmem⟩

set_option maxHeartbeats 4000000 in
set_option maxRecDepth 100000 in
theorem doneO {base : Nat} {w0 w : World} {a b : Nat} {seed : Int} {x y : PairL} {F G : List Nat} {xA yA : Option Addr} {xc yc : Nat} {A : Option Addr} {n c : Nat} {V : Option Addr} {vn vc : Nat} {B : Option Addr} {n2 c2 : Nat} {bd : Bool} {N : Int} {key value high : List UInt8}
    (h : BSt base w0 w a b seed x y F G xA xc yA yc) (hk : Bytes base w A n key) (hv : Bytes base w V vn value) (hk2 : Bytes base w B n2 high) (hb : base ≤ w0.heap.size) (hsz : x.length + y.length ≤ 30000) (hn : n ≤ 1000000) (hvn : vn ≤ 1000000) (hn2 : n2 ≤ 1000000) {kind : Int} (hk0 : kind ∉ [0, 1, 8, 9, 10, 11, 12, 13]) :
    Calls Try.prog 59 #[.agg #[.pointer (some ⟨a, 0, none⟩), .pointer (some ⟨b, 0, none⟩), .slice xA x.length xc, .slice yA y.length yc, .bool true], .int .u64 seed, .agg #[.int .i64 kind, .slice A n c, .slice V vn vc, .slice B n2 c2, .bool bd, .int .i64 N]] w (BRet base w0 w F G seed (x.length + y.length + 1)) := by
  have hbw : base ≤ w.heap.size := Nat.le_trans hb h.two.keep.size
  obtain ⟨d1, k1⟩ := D3.start w #[.pointer (some ⟨a, 0, none⟩), .pointer (some ⟨b, 0, none⟩), .slice xA x.length xc, .slice yA y.length yc, .bool true] #[.int .i64 kind, .slice A n c, .slice V vn vc, .slice B n2 c2, .bool bd, .int .i64 N] #[.pointer none, .pointer none, .slice none 0 0, .slice none 0 0, .bool false]
  have f0 := d1.b3.cell 0
  have f1 := d1.b3.cell 1
  have f2 := d1.b3.cell 2
  have f3 := d1.b3.cell 3
  have f4 := d1.b3.cell 4
  have p0 := d1.b5.cell 0
  have p1 := d1.b5.cell 1
  have p2 := d1.b5.cell 2
  have p3 := d1.b5.cell 3
  have p4 := d1.b5.cell 4
  have p5 := d1.b5.cell 5
  have g0 := d1.b6.cell 0
  have y0 := d1.b6.frozen 0
  have z0 := d1.b3.frozen 0
  have g1 := d1.b6.cell 1
  have y1 := d1.b6.frozen 1
  have z1 := d1.b3.frozen 1
  have g2 := d1.b6.cell 2
  have y2 := d1.b6.frozen 2
  have z2 := d1.b3.frozen 2
  have g3 := d1.b6.cell 3
  have y3 := d1.b6.frozen 3
  have z3 := d1.b3.frozen 3
  have g4 := d1.b6.cell 4
  have y4 := d1.b6.frozen 4
  have z4 := d1.b3.frozen 4
  simp only [List.getElem?_toArray, List.getElem?_cons_zero, List.getElem?_cons_succ] at f0 f1 f2 f3 f4 p0 p1 p2 p3 p4 p5 g0 g1 g2 g3 g4
  have HD := Lib.hid (show _ ∧ _ from ⟨d1, k1⟩)
  have H := Lib.hid (show _ ∧ _ ∧ _ ∧ _ from ⟨h, hk, hv, hk2⟩)
  clear d1 k1 h hk hv hk2
  have e0 : (kind == 0) = false := beq_eq_false_iff_ne.2 (fun e => hk0 (by subst e; simp))
  have e1 : (kind == 1) = false := beq_eq_false_iff_ne.2 (fun e => hk0 (by subst e; simp))
  have e8 : (kind == 8) = false := beq_eq_false_iff_ne.2 (fun e => hk0 (by subst e; simp))
  have e9 : (kind == 9) = false := beq_eq_false_iff_ne.2 (fun e => hk0 (by subst e; simp))
  have e10 : (kind == 10) = false := beq_eq_false_iff_ne.2 (fun e => hk0 (by subst e; simp))
  have e11 : (kind == 11) = false := beq_eq_false_iff_ne.2 (fun e => hk0 (by subst e; simp))
  have e12 : (kind == 12) = false := beq_eq_false_iff_ne.2 (fun e => hk0 (by subst e; simp))
  have e13 : (kind == 13) = false := beq_eq_false_iff_ne.2 (fun e => hk0 (by subst e; simp))
  clear hk0
  go_enter Try.func59, Try.ntmps59
  go_wp2_with fail
  generalize hW1 : ((w.alloc (.cells #[.pointer (some ⟨a, 0, none⟩), .pointer (some ⟨b, 0, none⟩), .slice xA x.length xc, .slice yA y.length yc, .bool true] 111)).alloc (.cells #[.int .i64 kind, .slice A n c, .slice V vn vc, .slice B n2 c2, .bool bd, .int .i64 N] 113)).alloc (.cells #[.pointer none, .pointer none, .slice none 0 0, .slice none 0 0, .bool false] 111) = w1 at *
  clear hW1
  refine (asked_any (H.out.1.two.ma.new_ HD.out.2) (H.out.1.px.new_ HD.out.2) H.out.1.cx (H.out.2.1.new_ HD.out.2) (H.out.2.2.2.new_ HD.out.2) (Nat.le_trans hbw HD.out.2.size) (by omega) hn hn2 kind).mono ?_
  rintro e w2 ⟨rfl, k2⟩
  have d2 := HD.out.1.keep k2 (fun _ _ x => x)
  clear f0 f1 f2 f3 f4 p0 p1 p2 p3 p4 p5 g0 g1 g2 g3 g4 y0 y1 y2 y3 y4 z0 z1 z2 z3 z4
  have f0 := d2.b3.cell 0
  have f1 := d2.b3.cell 1
  have f2 := d2.b3.cell 2
  have f3 := d2.b3.cell 3
  have f4 := d2.b3.cell 4
  have g0 := d2.b6.cell 0
  have y0 := d2.b6.frozen 0
  have z0 := d2.b3.frozen 0
  have g1 := d2.b6.cell 1
  have y1 := d2.b6.frozen 1
  have z1 := d2.b3.frozen 1
  have g2 := d2.b6.cell 2
  have y2 := d2.b6.frozen 2
  have z2 := d2.b3.frozen 2
  have g3 := d2.b6.cell 3
  have y3 := d2.b6.frozen 3
  have z3 := d2.b3.frozen 3
  have g4 := d2.b6.cell 4
  have y4 := d2.b6.frozen 4
  have z4 := d2.b3.frozen 4
  simp only [List.getElem?_toArray, List.getElem?_cons_zero, List.getElem?_cons_succ] at f0 f1 f2 f3 f4 g0 g1 g2 g3 g4
  have HD2 := Lib.hid (show _ ∧ _ from ⟨d2, HD.out.2.trans k2 (fun _ x => x.elim)⟩)
  clear d2 k2 HD
  go_wp2
  have hbs := H.out.1.new_ HD2.out.2
  have hf : ∀ g, w.heap.size ≤ g → g < w.heap.size + 3 → g ∉ F ∧ g ∉ G := fun g hg _ => H.out.1.fresh hg
  exact (HD2.out.1.set3 4 (.bool true)).fin (hbs.set3 HD2.out.1 hb H.out.1.two.keep.size hf 4 (.bool true)) hb H.out.1.two.keep.size hf (Nat.le_succ _) ((HD2.out.2.mono (fun _ x => x.elim)).trans ((Keep.refl (fun z => z = w.heap.size) _).setCell (p := ⟨w.heap.size, 4, none⟩) (.inl rfl) _) (fun z hz => .inr (by omega))) (fun z hz => hz.elim .inl (fun h => .inr (.inl h))) rfl

set_option maxHeartbeats 4000000 in
set_option maxRecDepth 100000 in
theorem done9 {base : Nat} {w0 w : World} {a b : Nat} {seed : Int} {x y : PairL} {F G : List Nat} {xA yA : Option Addr} {xc yc : Nat} {A : Option Addr} {n c : Nat} {V : Option Addr} {vn vc : Nat} {B : Option Addr} {n2 c2 : Nat} {bd : Bool} {N : Int} {key value high : List UInt8}
    (h : BSt base w0 w a b seed x y F G xA xc yA yc) (hk : Bytes base w A n key) (hv : Bytes base w V vn value) (hk2 : Bytes base w B n2 high) (hb : base ≤ w0.heap.size) (hsz : x.length + y.length ≤ 30000) (hn : n ≤ 1000000) (hvn : vn ≤ 1000000) (hn2 : n2 ≤ 1000000) :
    Calls Try.prog 59 #[.agg #[.pointer (some ⟨a, 0, none⟩), .pointer (some ⟨b, 0, none⟩), .slice xA x.length xc, .slice yA y.length yc, .bool true], .int .u64 seed, .agg #[.int .i64 9, .slice A n c, .slice V vn vc, .slice B n2 c2, .bool bd, .int .i64 N]] w (BRet base w0 w F G seed (x.length + y.length + 1)) := by
  have hbw : base ≤ w.heap.size := Nat.le_trans hb h.two.keep.size
  obtain ⟨d1, k1⟩ := D3.start w #[.pointer (some ⟨a, 0, none⟩), .pointer (some ⟨b, 0, none⟩), .slice xA x.length xc, .slice yA y.length yc, .bool true] #[.int .i64 9, .slice A n c, .slice V vn vc, .slice B n2 c2, .bool bd, .int .i64 N] #[.pointer none, .pointer none, .slice none 0 0, .slice none 0 0, .bool false]
  have f0 := d1.b3.cell 0
  have f1 := d1.b3.cell 1
  have f2 := d1.b3.cell 2
  have f3 := d1.b3.cell 3
  have f4 := d1.b3.cell 4
  have p0 := d1.b5.cell 0
  have p1 := d1.b5.cell 1
  have p2 := d1.b5.cell 2
  have p3 := d1.b5.cell 3
  have p4 := d1.b5.cell 4
  have p5 := d1.b5.cell 5
  have g0 := d1.b6.cell 0
  have y0 := d1.b6.frozen 0
  have z0 := d1.b3.frozen 0
  have g1 := d1.b6.cell 1
  have y1 := d1.b6.frozen 1
  have z1 := d1.b3.frozen 1
  have g2 := d1.b6.cell 2
  have y2 := d1.b6.frozen 2
  have z2 := d1.b3.frozen 2
  have g3 := d1.b6.cell 3
  have y3 := d1.b6.frozen 3
  have z3 := d1.b3.frozen 3
  have g4 := d1.b6.cell 4
  have y4 := d1.b6.frozen 4
  have z4 := d1.b3.frozen 4
  simp only [List.getElem?_toArray, List.getElem?_cons_zero, List.getElem?_cons_succ] at f0 f1 f2 f3 f4 p0 p1 p2 p3 p4 p5 g0 g1 g2 g3 g4
  have HD := Lib.hid (show _ ∧ _ from ⟨d1, k1⟩)
  have H := Lib.hid (show _ ∧ _ ∧ _ ∧ _ from ⟨h, hk, hv, hk2⟩)
  clear d1 k1 h hk hv hk2
  have HJ := Lib.hid (joined_on (H.out.1.new_ HD.out.2) hb (by omega))
  go_enter Try.func59, Try.ntmps59
  go_wp2_with fail
  generalize hW1 : ((w.alloc (.cells #[.pointer (some ⟨a, 0, none⟩), .pointer (some ⟨b, 0, none⟩), .slice xA x.length xc, .slice yA y.length yc, .bool true] 111)).alloc (.cells #[.int .i64 9, .slice A n c, .slice V vn vc, .slice B n2 c2, .bool bd, .int .i64 N] 113)).alloc (.cells #[.pointer none, .pointer none, .slice none 0 0, .slice none 0 0, .bool false] 111) = w1 at *
  clear hW1
  refine HJ.out.mono ?_
  rintro e w2 ⟨a', b', x', y', F', G', xA', xc', yA', yc', rfl, h2, hl2, hk2, hm2⟩
  have d2 := HD.out.1.keep hk2 (fun g hg hz => (List.mem_append.1 hz).elim (H.out.1.fresh hg).1 (H.out.1.fresh hg).2)
  have hl6 := HD.out.1.b6.lt
  have HE := Lib.hid (show _ ∧ _ ∧ _ ∧ _ from ⟨d2, h2, hk2, hm2⟩)
  clear f0 f1 f2 f3 f4 p0 p1 p2 p3 p4 p5 g0 g1 g2 g3 g4 y0 y1 y2 y3 y4 z0 z1 z2 z3 z4 HJ h2 hk2 hm2
  have f0 := d2.b3.cell 0
  have f1 := d2.b3.cell 1
  have f2 := d2.b3.cell 2
  have f3 := d2.b3.cell 3
  have f4 := d2.b3.cell 4
  have g0 := d2.b6.cell 0
  have y0 := d2.b6.frozen 0
  have z0 := d2.b3.frozen 0
  have g1 := d2.b6.cell 1
  have y1 := d2.b6.frozen 1
  have z1 := d2.b3.frozen 1
  have g2 := d2.b6.cell 2
  have y2 := d2.b6.frozen 2
  have z2 := d2.b3.frozen 2
  have g3 := d2.b6.cell 3
  have y3 := d2.b6.frozen 3
  have z3 := d2.b3.frozen 3
  have g4 := d2.b6.cell 4
  have y4 := d2.b6.frozen 4
  have z4 := d2.b3.frozen 4
  simp only [List.getElem?_toArray, List.getElem?_cons_zero, List.getElem?_cons_succ] at f0 f1 f2 f3 f4 g0 g1 g2 g3 g4
  clear d2
  go_wp2
  have hf : ∀ g, w.heap.size ≤ g → g < w.heap.size + 3 → g ∉ F' ∧ g ∉ G' := fun g hg hg3 => ⟨fun hz => (HE.out.2.2.2 g (.inl hz)).elim (H.out.1.fresh hg).1 (fun h => h.elim (H.out.1.fresh hg).2 (fun h => by omega)), fun hz => (HE.out.2.2.2 g (.inr hz)).elim (H.out.1.fresh hg).1 (fun h => h.elim (H.out.1.fresh hg).2 (fun h => by omega))⟩
  exact HE.out.1.fin HE.out.2.1 hb H.out.1.two.keep.size hf (Nat.le_succ_of_le hl2) ((HD.out.2.mono (fun _ x => x.elim)).trans HE.out.2.2.1 (fun z hz => .inl hz)) (fun z hz => (HE.out.2.2.2 z hz).elim .inl (fun h => .inr (h.imp id (Nat.le_trans HD.out.2.size)))) rfl

set_option maxHeartbeats 4000000 in
set_option maxRecDepth 100000 in
theorem done10 {base : Nat} {w0 w : World} {a b : Nat} {seed : Int} {x y : PairL} {F G : List Nat} {xA yA : Option Addr} {xc yc : Nat} {A : Option Addr} {n c : Nat} {V : Option Addr} {vn vc : Nat} {B : Option Addr} {n2 c2 : Nat} {bd : Bool} {N : Int} {key value high : List UInt8}
    (h : BSt base w0 w a b seed x y F G xA xc yA yc) (hk : Bytes base w A n key) (hv : Bytes base w V vn value) (hk2 : Bytes base w B n2 high) (hb : base ≤ w0.heap.size) (hsz : x.length + y.length ≤ 30000) (hn : n ≤ 1000000) (hvn : vn ≤ 1000000) (hn2 : n2 ≤ 1000000) :
    Calls Try.prog 59 #[.agg #[.pointer (some ⟨a, 0, none⟩), .pointer (some ⟨b, 0, none⟩), .slice xA x.length xc, .slice yA y.length yc, .bool true], .int .u64 seed, .agg #[.int .i64 10, .slice A n c, .slice V vn vc, .slice B n2 c2, .bool bd, .int .i64 N]] w (BRet base w0 w F G seed (x.length + y.length + 1)) := by
  have hbw : base ≤ w.heap.size := Nat.le_trans hb h.two.keep.size
  obtain ⟨d1, k1⟩ := D3.start w #[.pointer (some ⟨a, 0, none⟩), .pointer (some ⟨b, 0, none⟩), .slice xA x.length xc, .slice yA y.length yc, .bool true] #[.int .i64 10, .slice A n c, .slice V vn vc, .slice B n2 c2, .bool bd, .int .i64 N] #[.pointer none, .pointer none, .slice none 0 0, .slice none 0 0, .bool false]
  have f0 := d1.b3.cell 0
  have f1 := d1.b3.cell 1
  have f2 := d1.b3.cell 2
  have f3 := d1.b3.cell 3
  have f4 := d1.b3.cell 4
  have p0 := d1.b5.cell 0
  have p1 := d1.b5.cell 1
  have p2 := d1.b5.cell 2
  have p3 := d1.b5.cell 3
  have p4 := d1.b5.cell 4
  have p5 := d1.b5.cell 5
  have g0 := d1.b6.cell 0
  have y0 := d1.b6.frozen 0
  have z0 := d1.b3.frozen 0
  have g1 := d1.b6.cell 1
  have y1 := d1.b6.frozen 1
  have z1 := d1.b3.frozen 1
  have g2 := d1.b6.cell 2
  have y2 := d1.b6.frozen 2
  have z2 := d1.b3.frozen 2
  have g3 := d1.b6.cell 3
  have y3 := d1.b6.frozen 3
  have z3 := d1.b3.frozen 3
  have g4 := d1.b6.cell 4
  have y4 := d1.b6.frozen 4
  have z4 := d1.b3.frozen 4
  simp only [List.getElem?_toArray, List.getElem?_cons_zero, List.getElem?_cons_succ] at f0 f1 f2 f3 f4 p0 p1 p2 p3 p4 p5 g0 g1 g2 g3 g4
  have HD := Lib.hid (show _ ∧ _ from ⟨d1, k1⟩)
  have H := Lib.hid (show _ ∧ _ ∧ _ ∧ _ from ⟨h, hk, hv, hk2⟩)
  clear d1 k1 h hk hv hk2
  have HJ := Lib.hid (joined_back (H.out.1.new_ HD.out.2) hb (by omega))
  go_enter Try.func59, Try.ntmps59
  go_wp2_with fail
  generalize hW1 : ((w.alloc (.cells #[.pointer (some ⟨a, 0, none⟩), .pointer (some ⟨b, 0, none⟩), .slice xA x.length xc, .slice yA y.length yc, .bool true] 111)).alloc (.cells #[.int .i64 10, .slice A n c, .slice V vn vc, .slice B n2 c2, .bool bd, .int .i64 N] 113)).alloc (.cells #[.pointer none, .pointer none, .slice none 0 0, .slice none 0 0, .bool false] 111) = w1 at *
  clear hW1
  refine HJ.out.mono ?_
  rintro e w2 ⟨a', b', x', y', F', G', xA', xc', yA', yc', rfl, h2, hl2, hk2, hm2⟩
  have d2 := HD.out.1.keep hk2 (fun g hg hz => (List.mem_append.1 hz).elim (H.out.1.fresh hg).1 (H.out.1.fresh hg).2)
  have hl6 := HD.out.1.b6.lt
  have HE := Lib.hid (show _ ∧ _ ∧ _ ∧ _ from ⟨d2, h2, hk2, hm2⟩)
  clear f0 f1 f2 f3 f4 p0 p1 p2 p3 p4 p5 g0 g1 g2 g3 g4 y0 y1 y2 y3 y4 z0 z1 z2 z3 z4 HJ h2 hk2 hm2
  have f0 := d2.b3.cell 0
  have f1 := d2.b3.cell 1
  have f2 := d2.b3.cell 2
  have f3 := d2.b3.cell 3
  have f4 := d2.b3.cell 4
  have g0 := d2.b6.cell 0
  have y0 := d2.b6.frozen 0
  have z0 := d2.b3.frozen 0
  have g1 := d2.b6.cell 1
  have y1 := d2.b6.frozen 1
  have z1 := d2.b3.frozen 1
  have g2 := d2.b6.cell 2
  have y2 := d2.b6.frozen 2
  have z2 := d2.b3.frozen 2
  have g3 := d2.b6.cell 3
  have y3 := d2.b6.frozen 3
  have z3 := d2.b3.frozen 3
  have g4 := d2.b6.cell 4
  have y4 := d2.b6.frozen 4
  have z4 := d2.b3.frozen 4
  simp only [List.getElem?_toArray, List.getElem?_cons_zero, List.getElem?_cons_succ] at f0 f1 f2 f3 f4 g0 g1 g2 g3 g4
  clear d2
  go_wp2
  have hf : ∀ g, w.heap.size ≤ g → g < w.heap.size + 3 → g ∉ F' ∧ g ∉ G' := fun g hg hg3 => ⟨fun hz => (HE.out.2.2.2 g (.inl hz)).elim (H.out.1.fresh hg).1 (fun h => h.elim (H.out.1.fresh hg).2 (fun h => by omega)), fun hz => (HE.out.2.2.2 g (.inr hz)).elim (H.out.1.fresh hg).1 (fun h => h.elim (H.out.1.fresh hg).2 (fun h => by omega))⟩
  exact HE.out.1.fin HE.out.2.1 hb H.out.1.two.keep.size hf (Nat.le_succ_of_le hl2) ((HD.out.2.mono (fun _ x => x.elim)).trans HE.out.2.2.1 (fun z hz => .inl hz)) (fun z hz => (HE.out.2.2.2 z hz).elim .inl (fun h => .inr (h.imp id (Nat.le_trans HD.out.2.size)))) rfl

set_option maxHeartbeats 4000000 in
set_option maxRecDepth 100000 in
theorem done11 {base : Nat} {w0 w : World} {a b : Nat} {seed : Int} {x y : PairL} {F G : List Nat} {xA yA : Option Addr} {xc yc : Nat} {A : Option Addr} {n c : Nat} {V : Option Addr} {vn vc : Nat} {B : Option Addr} {n2 c2 : Nat} {bd : Bool} {N : Int} {key value high : List UInt8}
    (h : BSt base w0 w a b seed x y F G xA xc yA yc) (hk : Bytes base w A n key) (hv : Bytes base w V vn value) (hk2 : Bytes base w B n2 high) (hb : base ≤ w0.heap.size) (hsz : x.length + y.length ≤ 30000) (hn : n ≤ 1000000) (hvn : vn ≤ 1000000) (hn2 : n2 ≤ 1000000) :
    Calls Try.prog 59 #[.agg #[.pointer (some ⟨a, 0, none⟩), .pointer (some ⟨b, 0, none⟩), .slice xA x.length xc, .slice yA y.length yc, .bool true], .int .u64 seed, .agg #[.int .i64 11, .slice A n c, .slice V vn vc, .slice B n2 c2, .bool bd, .int .i64 N]] w (BRet base w0 w F G seed (x.length + y.length + 1)) := by
  have hbw : base ≤ w.heap.size := Nat.le_trans hb h.two.keep.size
  obtain ⟨d1, k1⟩ := D3.start w #[.pointer (some ⟨a, 0, none⟩), .pointer (some ⟨b, 0, none⟩), .slice xA x.length xc, .slice yA y.length yc, .bool true] #[.int .i64 11, .slice A n c, .slice V vn vc, .slice B n2 c2, .bool bd, .int .i64 N] #[.pointer none, .pointer none, .slice none 0 0, .slice none 0 0, .bool false]
  have f0 := d1.b3.cell 0
  have f1 := d1.b3.cell 1
  have f2 := d1.b3.cell 2
  have f3 := d1.b3.cell 3
  have f4 := d1.b3.cell 4
  have p0 := d1.b5.cell 0
  have p1 := d1.b5.cell 1
  have p2 := d1.b5.cell 2
  have p3 := d1.b5.cell 3
  have p4 := d1.b5.cell 4
  have p5 := d1.b5.cell 5
  have g0 := d1.b6.cell 0
  have y0 := d1.b6.frozen 0
  have z0 := d1.b3.frozen 0
  have g1 := d1.b6.cell 1
  have y1 := d1.b6.frozen 1
  have z1 := d1.b3.frozen 1
  have g2 := d1.b6.cell 2
  have y2 := d1.b6.frozen 2
  have z2 := d1.b3.frozen 2
  have g3 := d1.b6.cell 3
  have y3 := d1.b6.frozen 3
  have z3 := d1.b3.frozen 3
  have g4 := d1.b6.cell 4
  have y4 := d1.b6.frozen 4
  have z4 := d1.b3.frozen 4
  simp only [List.getElem?_toArray, List.getElem?_cons_zero, List.getElem?_cons_succ] at f0 f1 f2 f3 f4 p0 p1 p2 p3 p4 p5 g0 g1 g2 g3 g4
  have HD := Lib.hid (show _ ∧ _ from ⟨d1, k1⟩)
  have H := Lib.hid (show _ ∧ _ ∧ _ ∧ _ from ⟨h, hk, hv, hk2⟩)
  clear d1 k1 h hk hv hk2
  clear HD
  go_enter Try.func59, Try.ntmps59
  go_wp2_with fail
  obtain ⟨d2, k2⟩ := D3.start w #[.pointer (some ⟨b, 0, none⟩), .pointer (some ⟨a, 0, none⟩), .slice yA y.length yc, .slice xA x.length xc, .bool true] #[.int .i64 11, .slice A n c, .slice V vn vc, .slice B n2 c2, .bool bd, .int .i64 N] #[.pointer (some ⟨b, 0, none⟩), .pointer (some ⟨a, 0, none⟩), .slice yA y.length yc, .slice xA x.length xc, .bool true]
  refine bodyPost_ret (results_cell_row rfl _ _ (w.heap.size + 1 + 1) 111 #[.pointer (some ⟨b, 0, none⟩), .pointer (some ⟨a, 0, none⟩), .slice yA y.length yc, .slice xA x.length xc, .bool true] (0, 0) _ rfl d2.b6 Try.underlying111 rfl info_size_both) rfl ?_
  exact ⟨b, a, y, x, G, F, yA, yc, xA, xc, rfl, (H.out.1.new_ k2).symm, by omega, k2.mono (fun _ x => x.elim), fun z hz => hz.elim (fun h => .inr (.inl h)) .inl⟩
end Go.Proofs.Ytdmckjojeddaaaa
