/- Contract of the law's done, at Put and Drop. Conditions: each names its own. -/
import Derived.Test.YtdmckjojeddaaaaPE
namespace Go.Proofs.Ytdmckjojeddaaaa
open Go.RowKit Go.Proofs.YtdmckjojeddaaaaKit Go.Proofs.YtdmckjojeddaaaaPlain


theorem Two.chF {base : Nat} {w0 w w' : World} {a b : Nat} {seed : Int} {la lb la' : PairL} {F G : List Nat} (h : Two base w0 w a b seed la lb F G) (hc : Changed base w a seed la' F w') : ∃ F', Two base w0 w' a b seed la' lb F' G ∧ Keep (In F) w w' ∧ ∀ z ∈ F', z ∈ F ∨ w.heap.size ≤ z := by
  obtain ⟨F', h1, h2, h3⟩ := hc
  refine ⟨F', ⟨h1, h.mb.keep h2 h.ma.mut (fun x hx hF => h.apart x hF hx), fun x hx hG => ?_, fun x hx => ?_, h.fb, h.keep.trans h2 (fun x hx => .inr (h.fa x hx))⟩, h2, h3⟩
  · rcases h3 x hx with h4 | h4
    · exact h.apart x h4 hG
    · have := h.mb.lt hG; omega
  · rcases h3 x hx with h4 | h4
    · exact h.fa x h4
    · exact Nat.le_trans h.keep.size h4

set_option maxHeartbeats 4000000 in
set_option maxRecDepth 100000 in
theorem done1 {base : Nat} {w0 w : World} {a b : Nat} {seed : Int} {x y : PairL} {F G : List Nat} {xA yA : Option Addr} {xc yc : Nat} {A : Option Addr} {n c : Nat} {V : Option Addr} {vn vc : Nat} {B : Option Addr} {n2 c2 : Nat} {bd : Bool} {N : Int} {key value high : List UInt8}
    (h : BSt base w0 w a b seed x y F G xA xc yA yc) (hk : Bytes base w A n key) (hv : Bytes base w V vn value) (hk2 : Bytes base w B n2 high) (hb : base ≤ w0.heap.size) (hsz : x.length + y.length ≤ 30000) (hn : n ≤ 1000000) (hvn : vn ≤ 1000000) (hn2 : n2 ≤ 1000000) :
    Calls Try.prog 59 #[.agg #[.pointer (some ⟨a, 0, none⟩), .pointer (some ⟨b, 0, none⟩), .slice xA x.length xc, .slice yA y.length yc, .bool true], .int .u64 seed, .agg #[.int .i64 1, .slice A n c, .slice V vn vc, .slice B n2 c2, .bool bd, .int .i64 N]] w (BRet base w0 w F G seed (x.length + y.length + 1)) := by
  have hbw : base ≤ w.heap.size := Nat.le_trans hb h.two.keep.size
  obtain ⟨d1, k1⟩ := D3.start w #[.pointer (some ⟨a, 0, none⟩), .pointer (some ⟨b, 0, none⟩), .slice xA x.length xc, .slice yA y.length yc, .bool true] #[.int .i64 1, .slice A n c, .slice V vn vc, .slice B n2 c2, .bool bd, .int .i64 N] #[.pointer none, .pointer none, .slice none 0 0, .slice none 0 0, .bool false]
  have f0 := d1.b3.cell 0
  have f1 := d1.b3.cell 1
  have f2 := d1.b3.cell 2
  have f3 := d1.b3.cell 3
  have f4 := d1.b3.cell 4
  have p0 := d1.b5.cell 0
  have p1 := d1.b5.cell 1
  have p2 := d1.b5.cell 2
  have p3 := d1.b5.cell 3
  have p4 := d1.b5.cell 4
  have p5 := d1.b5.cell 5
  have g0 := d1.b6.cell 0
  have y0 := d1.b6.frozen 0
  have z0 := d1.b3.frozen 0
  have g1 := d1.b6.cell 1
  have y1 := d1.b6.frozen 1
  have z1 := d1.b3.frozen 1
  have g2 := d1.b6.cell 2
  have y2 := d1.b6.frozen 2
  have z2 := d1.b3.frozen 2
  have g3 := d1.b6.cell 3
  have y3 := d1.b6.frozen 3
  have z3 := d1.b3.frozen 3
  have g4 := d1.b6.cell 4
  have y4 := d1.b6.frozen 4
  have z4 := d1.b3.frozen 4
  simp only [List.getElem?_toArray, List.getElem?_cons_zero, List.getElem?_cons_succ] at f0 f1 f2 f3 f4 p0 p1 p2 p3 p4 p5 g0 g1 g2 g3 g4
  have HD := Lib.hid (show _ ∧ _ from ⟨d1, k1⟩)
  have H := Lib.hid (show _ ∧ _ ∧ _ ∧ _ from ⟨h, hk, hv, hk2⟩)
  clear d1 k1 h hk hv hk2
  have hok := H.out.1.two.ma.okay
  have hsm := hok.small
  have hcx := H.out.1.cx
  have HDR := Lib.hid (mdrop_any (c := c) (H.out.1.two.ma.new_ HD.out.2) (H.out.2.1.new_ HD.out.2) (by omega))
  have HM0 := Lib.hid (H.out.1.two.ma.new_ HD.out.2).mut
  have hl6 := HD.out.1.b6.lt
  cases hh : hasL key x with
  | true =>
    have HDT := Lib.hid (HDR.out.mono (fun e w' hm => hm.2 hh))
    have hlen : (dropL x key).length ≤ x.length := by unfold dropL; rw [if_pos hh, List.length_append, List.length_take, List.length_drop]; have := hasL_rank hh; omega
    have HH := Lib.hid hh
    clear HDR hok hh
    go_enter Try.func59, Try.ntmps59
    go_wp2_with fail
    generalize hW1 : ((w.alloc (.cells #[.pointer (some ⟨a, 0, none⟩), .pointer (some ⟨b, 0, none⟩), .slice xA x.length xc, .slice yA y.length yc, .bool true] 111)).alloc (.cells #[.int .i64 1, .slice A n c, .slice V vn vc, .slice B n2 c2, .bool bd, .int .i64 N] 113)).alloc (.cells #[.pointer none, .pointer none, .slice none 0 0, .slice none 0 0, .bool false] 111) = w1 at *
    clear hW1
    refine HDT.out.mono ?_
    rintro e w2 ⟨rfl, hc⟩
    obtain ⟨F2, t2, k2, hF2⟩ := (H.out.1.two.new_ HD.out.2).chF hc
    have px2 := (H.out.1.px.new_ HD.out.2).keep k2 HM0.out
    have py2 := (H.out.1.py.new_ HD.out.2).keep k2 HM0.out
    have bk2 := (H.out.2.1.new_ HD.out.2).keep k2 HM0.out
    have d2 := HD.out.1.keep k2 (fun g hg hz => (H.out.1.fresh hg).1 hz)
    have hb2 : base ≤ w2.heap.size := Nat.le_trans hb t2.keep.size
    have HR := Lib.hid (rhas_any (b1 := base) (b2 := base) xA A _ xc n c x key w2 px2 bk2 hsm hn (by omega))
    rw [HH.out] at HR
    have HRD := Lib.hid (fun q => rdrop_any xA A _ xc n c x key (w2.drewN q) (px2.new_ ((Keep.refl No w2).drewN q)) (bk2.drewN q) hsm hn (by omega) hcx hb2)
    have HT := Lib.hid (show _ ∧ _ ∧ _ ∧ _ ∧ _ from ⟨t2, py2, d2, k2, hF2⟩)
    clear f0 f1 f2 f3 f4 p0 p1 p2 p3 p4 p5 g0 g1 g2 g3 g4 y0 y1 y2 y3 y4 z0 z1 z2 z3 z4 hc t2 k2 hF2 px2 bk2 HDT py2
    have f2 := d2.b3.cell 2
    have p1 := d2.b5.cell 1
    simp only [List.getElem?_toArray, List.getElem?_cons_zero, List.getElem?_cons_succ] at f2 p1
    clear d2
    go_wp2_with fail
    refine HR.out.mono ?_
    rintro e w3 ⟨rfl, q, rfl⟩
    go_wp2_with fail
    refine (HRD.out q).mono ?_
    rintro e w4 ⟨A4, c4, rfl, hc4, p4, k4⟩
    have k24 := ((Keep.refl No w2).drewN q).trans k4 (fun _ x => x.elim)
    have d4 := HT.out.2.2.1.keep k24 (fun _ _ x => x)
    have HM := Lib.hid (show BSt base w0 w4 a b seed (dropL x key) y F2 G A4 c4 yA yc ∧ _ ∧ Keep (In F) w1 w4 ∧ (∀ z ∈ F2, z ∈ F ∨ w1.heap.size ≤ z) ∧ (dropL x key).length + y.length ≤ x.length + y.length + 1 from ⟨⟨HT.out.1.new_ k24, p4, HT.out.2.1.new_ k24, hc4, H.out.1.cy⟩, d4, HT.out.2.2.2.1.trans k24 (fun _ x => x.elim), HT.out.2.2.2.2, by omega⟩)
    clear f2 p1 p4 k4 k24 HR HRD hlen
    have f0 := d4.b3.cell 0
    have f1 := d4.b3.cell 1
    have f2 := d4.b3.cell 2
    have f3 := d4.b3.cell 3
    have f4 := d4.b3.cell 4
    have g0 := d4.b6.cell 0
    have y0 := d4.b6.frozen 0
    have z0 := d4.b3.frozen 0
    have g1 := d4.b6.cell 1
    have y1 := d4.b6.frozen 1
    have z1 := d4.b3.frozen 1
    have g2 := d4.b6.cell 2
    have y2 := d4.b6.frozen 2
    have z2 := d4.b3.frozen 2
    have g3 := d4.b6.cell 3
    have y3 := d4.b6.frozen 3
    have z3 := d4.b3.frozen 3
    have g4 := d4.b6.cell 4
    have y4 := d4.b6.frozen 4
    have z4 := d4.b3.frozen 4
    simp only [List.getElem?_toArray, List.getElem?_cons_zero, List.getElem?_cons_succ] at f0 f1 f2 f3 f4 g0 g1 g2 g3 g4
    clear d4
    go_wp2
    have hww := H.out.1.two.keep.size
    have hf : ∀ g, w.heap.size ≤ g → g < w.heap.size + 3 → g ∉ F2 ∧ g ∉ G := fun g hg hg3 => ⟨fun hz => (HM.out.2.2.2.1 g hz).elim (H.out.1.fresh hg).1 (fun h => by omega), (H.out.1.fresh hg).2⟩
    have hbs1 := HM.out.1.set3 HM.out.2.1 hb hww hf 2 (.slice A4 (dropL x key).length c4)
    have hd1 := HM.out.2.1.set3 2 (.slice A4 (dropL x key).length c4)
    exact (hd1.set3 4 (.bool true)).fin (hbs1.set3 hd1 hb hww hf 4 (.bool true)) hb hww hf HM.out.2.2.2.2 ((((HD.out.2.mono (fun _ x => x.elim) : Keep (In (F ++ G)) w w1)).trans HM.out.2.2.1 (fun z hz => .inl (List.mem_append_left _ hz))).trans (((Keep.refl (fun z => z = w.heap.size) _).setCell (p := ⟨w.heap.size, 2, none⟩) (.inl rfl) _).setCell (p := ⟨w.heap.size, 4, none⟩) (.inl rfl) _) (fun z hz => .inr (by omega))) (fun z hz => hz.elim (fun h => (HM.out.2.2.2.1 z h).imp id (fun h => .inr (Nat.le_trans HD.out.2.size h))) (fun h => .inr (.inl h))) rfl
  | false =>
    have HDT := Lib.hid (HDR.out.mono (fun e w' hm => hm.1 hh))
    have hdl : dropL x key = x := by unfold dropL; rw [if_neg (by rw [hh]; decide)]
    have HH := Lib.hid (show _ ∧ _ from ⟨hh, hdl⟩)
    clear HDR hok hh hdl
    go_enter Try.func59, Try.ntmps59
    go_wp2_with fail
    generalize hW1 : ((w.alloc (.cells #[.pointer (some ⟨a, 0, none⟩), .pointer (some ⟨b, 0, none⟩), .slice xA x.length xc, .slice yA y.length yc, .bool true] 111)).alloc (.cells #[.int .i64 1, .slice A n c, .slice V vn vc, .slice B n2 c2, .bool bd, .int .i64 N] 113)).alloc (.cells #[.pointer none, .pointer none, .slice none 0 0, .slice none 0 0, .bool false] 111) = w1 at *
    clear hW1
    refine HDT.out.mono ?_
    rintro e w2 ⟨rfl, rfl⟩
    have px2 := H.out.1.px.new_ HD.out.2
    have bk2 := H.out.2.1.new_ HD.out.2
    have d2 := HD.out.1
    have HR := Lib.hid (rhas_any (b1 := base) (b2 := base) xA A _ xc n c x key w1 px2 bk2 hsm hn (by omega))
    rw [HH.out.1] at HR
    have hb1 : base ≤ w1.heap.size := Nat.le_trans hbw HD.out.2.size
    have HRD := Lib.hid (fun q => rdrop_any xA A _ xc n c x key (w1.drewN q) (px2.new_ ((Keep.refl No w1).drewN q)) (bk2.drewN q) hsm hn (by omega) hcx hb1)
    rw [HH.out.2] at HRD
    clear f0 f1 f2 f3 f4 p0 p1 p2 p3 p4 p5 g0 g1 g2 g3 g4 y0 y1 y2 y3 y4 z0 z1 z2 z3 z4 px2 bk2 HDT
    have f2 := d2.b3.cell 2
    have p1 := d2.b5.cell 1
    simp only [List.getElem?_toArray, List.getElem?_cons_zero, List.getElem?_cons_succ] at f2 p1
    clear d2
    go_wp2_with fail
    refine HR.out.mono ?_
    rintro e w3 ⟨rfl, q, rfl⟩
    have p1 := (HD.out.1.keep ((Keep.refl No w1).drewN q) (fun _ _ x => x)).b5.cell 1
    have f2 := (HD.out.1.keep ((Keep.refl No w1).drewN q) (fun _ _ x => x)).b3.cell 2
    simp only [List.getElem?_toArray, List.getElem?_cons_zero, List.getElem?_cons_succ] at f2 p1
    go_wp2_with fail
    refine (HRD.out q).mono ?_
    rintro e w4 ⟨A4, c4, rfl, hc4, p4, k4⟩
    have k24 := ((Keep.refl No w1).drewN q).trans k4 (fun _ x => x.elim)
    have d4 := HD.out.1.keep k24 (fun _ _ x => x)
    obtain ⟨F2, hF2⟩ : ∃ F2, F2 = F := ⟨_, rfl⟩
    have HM := Lib.hid (show BSt base w0 w4 a b seed x y F2 G A4 c4 yA yc ∧ _ ∧ Keep (In F) w1 w4 ∧ (∀ z ∈ F2, z ∈ F ∨ w1.heap.size ≤ z) ∧ x.length + y.length ≤ x.length + y.length + 1 from ⟨hF2 ▸ ⟨(H.out.1.two.new_ HD.out.2).new_ k24, p4, (H.out.1.py.new_ HD.out.2).new_ k24, hc4, H.out.1.cy⟩, d4, k24.mono (fun _ x => x.elim), fun z hz => .inl (hF2 ▸ hz), by omega⟩)
    clear f2 p1 p4 k4 k24 HR HRD hF2
    have f0 := d4.b3.cell 0
    have f1 := d4.b3.cell 1
    have f2 := d4.b3.cell 2
    have f3 := d4.b3.cell 3
    have f4 := d4.b3.cell 4
    have g0 := d4.b6.cell 0
    have y0 := d4.b6.frozen 0
    have z0 := d4.b3.frozen 0
    have g1 := d4.b6.cell 1
    have y1 := d4.b6.frozen 1
    have z1 := d4.b3.frozen 1
    have g2 := d4.b6.cell 2
    have y2 := d4.b6.frozen 2
    have z2 := d4.b3.frozen 2
    have g3 := d4.b6.cell 3
    have y3 := d4.b6.frozen 3
    have z3 := d4.b3.frozen 3
    have g4 := d4.b6.cell 4
    have y4 := d4.b6.frozen 4
    have z4 := d4.b3.frozen 4
    simp only [List.getElem?_toArray, List.getElem?_cons_zero, List.getElem?_cons_succ] at f0 f1 f2 f3 f4 g0 g1 g2 g3 g4
    clear d4
    go_wp2
    have hww := H.out.1.two.keep.size
    have hf : ∀ g, w.heap.size ≤ g → g < w.heap.size + 3 → g ∉ F2 ∧ g ∉ G := fun g hg hg3 => ⟨fun hz => (HM.out.2.2.2.1 g hz).elim (H.out.1.fresh hg).1 (fun h => by omega), (H.out.1.fresh hg).2⟩
    have hbs1 := HM.out.1.set3 HM.out.2.1 hb hww hf 2 (.slice A4 (x).length c4)
    have hd1 := HM.out.2.1.set3 2 (.slice A4 (x).length c4)
    exact (hd1.set3 4 (.bool true)).fin (hbs1.set3 hd1 hb hww hf 4 (.bool true)) hb hww hf HM.out.2.2.2.2 ((((HD.out.2.mono (fun _ x => x.elim) : Keep (In (F ++ G)) w w1)).trans HM.out.2.2.1 (fun z hz => .inl (List.mem_append_left _ hz))).trans (((Keep.refl (fun z => z = w.heap.size) _).setCell (p := ⟨w.heap.size, 2, none⟩) (.inl rfl) _).setCell (p := ⟨w.heap.size, 4, none⟩) (.inl rfl) _) (fun z hz => .inr (by omega))) (fun z hz => hz.elim (fun h => (HM.out.2.2.2.1 z h).imp id (fun h => .inr (Nat.le_trans HD.out.2.size h))) (fun h => .inr (.inl h))) rfl

set_option maxHeartbeats 2000000 in
set_option maxRecDepth 100000 in
theorem put_no {base : Nat} {w : World} {seed : Int} {mb : Nat} {l : PairL} {F : List Nat} {A B : Option Addr} {n c m d : Nat} {key value : List UInt8} (h : MSt base w mb seed l F) (hk : Bytes base w A n key) (hv : Bytes base w B m value) (hno : allowedB key value = false) :
    Calls Try.prog 43 #[.pointer (some ⟨mb, 0, none⟩), .slice A n c, .slice B m d] w fun e w' => e = .returned (.int .i64 1) ∧ w = w' := by
  obtain rfl := hk.len
  obtain rfl := hv.len
  obtain ⟨t, hO, _, _, _⟩ := h
  have HR := Lib.hid (real_any hO.has)
  clear hO hk hv
  by_cases h1 : key.length < 1
  · have q1 : decide (key.length < 1) = true := decide_eq_true h1
    have q2 : decide ((key.length : Int) < 1) = true := decide_eq_true (by omega)
    clear hno h1
    go_enter Try.func43, Try.ntmps43
    go_wp2_with (go_at_call 64; refine HR.out.mono ?_; rintro e w' ⟨rfl, rfl⟩)
    go_ret
    exact ⟨rfl, rfl⟩
  · have q1 : decide (key.length < 1) = false := decide_eq_false h1
    have q2 : decide ((key.length : Int) < 1) = false := decide_eq_false (by omega)
    by_cases h2 : 64 < key.length
    · have r1 : decide (64 < key.length) = true := decide_eq_true h2
      have r2 : decide ((64 : Int) < (key.length : Int)) = true := decide_eq_true (by omega)
      clear hno h1 h2
      go_enter Try.func43, Try.ntmps43
      go_wp2_with (go_at_call 64; refine HR.out.mono ?_; rintro e w' ⟨rfl, rfl⟩)
      go_ret
      exact ⟨rfl, rfl⟩
    · have r1 : decide (64 < key.length) = false := decide_eq_false h2
      have r2 : decide ((64 : Int) < (key.length : Int)) = false := decide_eq_false (by omega)
      have h3 : 1000 < value.length := by
        rcases Nat.lt_or_ge 1000 value.length with h | h
        · exact h
        · rw [allowedB_iff.2 ⟨by omega, by omega, h⟩] at hno; cases hno
      have s1 : decide (1000 < value.length) = true := decide_eq_true h3
      have s2 : decide ((1000 : Int) < (value.length : Int)) = true := decide_eq_true (by omega)
      clear hno h1 h2 h3
      go_enter Try.func43, Try.ntmps43
      go_wp2_with (go_at_call 64; refine HR.out.mono ?_; rintro e w' ⟨rfl, rfl⟩)
      go_ret
      exact ⟨rfl, rfl⟩

set_option maxHeartbeats 4000000 in
set_option maxRecDepth 100000 in
theorem done0 {base : Nat} {w0 w : World} {a b : Nat} {seed : Int} {x y : PairL} {F G : List Nat} {xA yA : Option Addr} {xc yc : Nat} {A : Option Addr} {n c : Nat} {V : Option Addr} {vn vc : Nat} {B : Option Addr} {n2 c2 : Nat} {bd : Bool} {N : Int} {key value high : List UInt8}
    (h : BSt base w0 w a b seed x y F G xA xc yA yc) (hk : Bytes base w A n key) (hv : Bytes base w V vn value) (hk2 : Bytes base w B n2 high) (hb : base ≤ w0.heap.size) (hsz : x.length + y.length ≤ 30000) (hn : n ≤ 1000000) (hvn : vn ≤ 1000000) (hn2 : n2 ≤ 1000000) :
    Calls Try.prog 59 #[.agg #[.pointer (some ⟨a, 0, none⟩), .pointer (some ⟨b, 0, none⟩), .slice xA x.length xc, .slice yA y.length yc, .bool true], .int .u64 seed, .agg #[.int .i64 0, .slice A n c, .slice V vn vc, .slice B n2 c2, .bool bd, .int .i64 N]] w (BRet base w0 w F G seed (x.length + y.length + 1)) := by
  have hbw : base ≤ w.heap.size := Nat.le_trans hb h.two.keep.size
  obtain ⟨d1, k1⟩ := D3.start w #[.pointer (some ⟨a, 0, none⟩), .pointer (some ⟨b, 0, none⟩), .slice xA x.length xc, .slice yA y.length yc, .bool true] #[.int .i64 0, .slice A n c, .slice V vn vc, .slice B n2 c2, .bool bd, .int .i64 N] #[.pointer none, .pointer none, .slice none 0 0, .slice none 0 0, .bool false]
  have f0 := d1.b3.cell 0
  have f1 := d1.b3.cell 1
  have f2 := d1.b3.cell 2
  have f3 := d1.b3.cell 3
  have f4 := d1.b3.cell 4
  have p0 := d1.b5.cell 0
  have p1 := d1.b5.cell 1
  have p2 := d1.b5.cell 2
  have p3 := d1.b5.cell 3
  have p4 := d1.b5.cell 4
  have p5 := d1.b5.cell 5
  have g0 := d1.b6.cell 0
  have y0 := d1.b6.frozen 0
  have z0 := d1.b3.frozen 0
  have g1 := d1.b6.cell 1
  have y1 := d1.b6.frozen 1
  have z1 := d1.b3.frozen 1
  have g2 := d1.b6.cell 2
  have y2 := d1.b6.frozen 2
  have z2 := d1.b3.frozen 2
  have g3 := d1.b6.cell 3
  have y3 := d1.b6.frozen 3
  have z3 := d1.b3.frozen 3
  have g4 := d1.b6.cell 4
  have y4 := d1.b6.frozen 4
  have z4 := d1.b3.frozen 4
  simp only [List.getElem?_toArray, List.getElem?_cons_zero, List.getElem?_cons_succ] at f0 f1 f2 f3 f4 p0 p1 p2 p3 p4 p5 g0 g1 g2 g3 g4
  have HD := Lib.hid (show _ ∧ _ from ⟨d1, k1⟩)
  have H := Lib.hid (show _ ∧ _ ∧ _ ∧ _ from ⟨h, hk, hv, hk2⟩)
  clear d1 k1 h hk hv hk2
  have hok := H.out.1.two.ma.okay
  have hsm := hok.small
  have hcx := H.out.1.cx
  have HM0 := Lib.hid (H.out.1.two.ma.new_ HD.out.2).mut
  have hl6 := HD.out.1.b6.lt
  have hkl := H.out.2.1.len
  have hvl := H.out.2.2.1.len
  have HAL := Lib.hid (fun W (bk : Bytes base W A n key) (bv : Bytes base W V vn value) => rallowed_any (b1 := base) (b2 := base) A V n c vn vc key value W bk bv)
  cases hal : allowedB key value with
  | false =>
    have HPN := Lib.hid (put_no (c := c) (d := vc) (H.out.1.two.ma.new_ HD.out.2) (H.out.2.1.new_ HD.out.2) (H.out.2.2.1.new_ HD.out.2) hal)
    have HA1 := Lib.hid (HAL.out _ (H.out.2.1.new_ HD.out.2) (H.out.2.2.1.new_ HD.out.2))
    rw [hal] at HA1
    clear hal HAL hok
    go_enter Try.func59, Try.ntmps59
    go_wp2_with fail
    generalize hW1 : ((w.alloc (.cells #[.pointer (some ⟨a, 0, none⟩), .pointer (some ⟨b, 0, none⟩), .slice xA x.length xc, .slice yA y.length yc, .bool true] 111)).alloc (.cells #[.int .i64 0, .slice A n c, .slice V vn vc, .slice B n2 c2, .bool bd, .int .i64 N] 113)).alloc (.cells #[.pointer none, .pointer none, .slice none 0 0, .slice none 0 0, .bool false] 111) = w1 at *
    clear hW1
    refine HPN.out.mono ?_
    rintro e w2 ⟨rfl, rfl⟩
    go_wp2_with (go_at_call 40; refine HA1.out.mono ?_; rintro e w' ⟨rfl, rfl⟩)
    have hbs := H.out.1.new_ HD.out.2
    have hf : ∀ g, w.heap.size ≤ g → g < w.heap.size + 3 → g ∉ F ∧ g ∉ G := fun g hg _ => H.out.1.fresh hg
    exact (HD.out.1.set3 4 (.bool true)).fin (hbs.set3 HD.out.1 hb H.out.1.two.keep.size hf 4 (.bool true)) hb H.out.1.two.keep.size hf (Nat.le_succ _) ((HD.out.2.mono (fun _ x => x.elim)).trans ((Keep.refl (fun z => z = w.heap.size) _).setCell (p := ⟨w.heap.size, 4, none⟩) (.inl rfl) _) (fun z hz => .inr (by omega))) (fun z hz => hz.elim .inl (fun h => .inr (.inl h))) rfl
  | true =>
    have hko : keyOk key value := allowedB_iff.1 hal
    have HPT := Lib.hid (MPut_ok (c := c) (d := vc) (H.out.1.two.ma.new_ HD.out.2) (H.out.2.1.new_ HD.out.2) (H.out.2.2.1.new_ HD.out.2) hko (by omega) (Nat.le_trans hbw HD.out.2.size))
    have hlen := length_putL x key value
    have HH := Lib.hid hal
    clear hok hal hko
    go_enter Try.func59, Try.ntmps59
    go_wp2_with fail
    generalize hW1 : ((w.alloc (.cells #[.pointer (some ⟨a, 0, none⟩), .pointer (some ⟨b, 0, none⟩), .slice xA x.length xc, .slice yA y.length yc, .bool true] 111)).alloc (.cells #[.int .i64 0, .slice A n c, .slice V vn vc, .slice B n2 c2, .bool bd, .int .i64 N] 113)).alloc (.cells #[.pointer none, .pointer none, .slice none 0 0, .slice none 0 0, .bool false] 111) = w1 at *
    clear hW1
    refine HPT.out.mono ?_
    rintro e w2 ⟨rfl, hc⟩
    obtain ⟨F2, t2, k2, hF2⟩ := (H.out.1.two.new_ HD.out.2).chF hc
    have px2 := (H.out.1.px.new_ HD.out.2).keep k2 HM0.out
    have py2 := (H.out.1.py.new_ HD.out.2).keep k2 HM0.out
    have bk2 := (H.out.2.1.new_ HD.out.2).keep k2 HM0.out
    have bv2 := (H.out.2.2.1.new_ HD.out.2).keep k2 HM0.out
    have d2 := HD.out.1.keep k2 (fun g hg hz => (H.out.1.fresh hg).1 hz)
    have hb2 : base ≤ w2.heap.size := Nat.le_trans hb t2.keep.size
    have HA2 := Lib.hid (HAL.out w2 bk2 bv2)
    rw [HH.out] at HA2
    have HRP := Lib.hid (rput_any xA A V _ xc n c vn vc x key value w2 px2 bk2 bv2 hsm hn hvn (by omega) hcx hb2)
    have HT := Lib.hid (show _ ∧ _ ∧ _ ∧ _ ∧ _ from ⟨t2, py2, d2, k2, hF2⟩)
    clear f0 f1 f2 f3 f4 p0 p1 p2 p3 p4 p5 g0 g1 g2 g3 g4 y0 y1 y2 y3 y4 z0 z1 z2 z3 z4 hc t2 k2 hF2 px2 bk2 bv2 HPT py2 HAL
    have f2 := d2.b3.cell 2
    have p1 := d2.b5.cell 1
    have p2 := d2.b5.cell 2
    simp only [List.getElem?_toArray, List.getElem?_cons_zero, List.getElem?_cons_succ] at f2 p1 p2
    clear d2
    go_wp2_with (go_at_call 40; refine HA2.out.mono ?_; rintro e w' ⟨rfl, rfl⟩)
    refine HRP.out.mono ?_
    rintro e w4 hg
    obtain ⟨A4, c4, rfl, hc4, p4, k4⟩ := hg.got
    have k24 := k4
    have d4 := HT.out.2.2.1.keep k24 (fun _ _ x => x)
    have HM := Lib.hid (show BSt base w0 w4 a b seed (putL x key value) y F2 G A4 c4 yA yc ∧ _ ∧ Keep (In F) w1 w4 ∧ (∀ z ∈ F2, z ∈ F ∨ w1.heap.size ≤ z) ∧ (putL x key value).length + y.length ≤ x.length + y.length + 1 from ⟨⟨HT.out.1.new_ k24, p4, HT.out.2.1.new_ k24, hc4, H.out.1.cy⟩, d4, HT.out.2.2.2.1.trans k24 (fun _ x => x.elim), HT.out.2.2.2.2, by omega⟩)
    clear f2 p1 p2 p4 k4 k24 HA2 HRP hlen hg
    have f0 := d4.b3.cell 0
    have f1 := d4.b3.cell 1
    have f2 := d4.b3.cell 2
    have f3 := d4.b3.cell 3
    have f4 := d4.b3.cell 4
    have g0 := d4.b6.cell 0
    have y0 := d4.b6.frozen 0
    have z0 := d4.b3.frozen 0
    have g1 := d4.b6.cell 1
    have y1 := d4.b6.frozen 1
    have z1 := d4.b3.frozen 1
    have g2 := d4.b6.cell 2
    have y2 := d4.b6.frozen 2
    have z2 := d4.b3.frozen 2
    have g3 := d4.b6.cell 3
    have y3 := d4.b6.frozen 3
    have z3 := d4.b3.frozen 3
    have g4 := d4.b6.cell 4
    have y4 := d4.b6.frozen 4
    have z4 := d4.b3.frozen 4
    simp only [List.getElem?_toArray, List.getElem?_cons_zero, List.getElem?_cons_succ] at f0 f1 f2 f3 f4 g0 g1 g2 g3 g4
    clear d4
    go_wp2
    have hww := H.out.1.two.keep.size
    have hf : ∀ g, w.heap.size ≤ g → g < w.heap.size + 3 → g ∉ F2 ∧ g ∉ G := fun g hg hg3 => ⟨fun hz => (HM.out.2.2.2.1 g hz).elim (H.out.1.fresh hg).1 (fun h => by omega), (H.out.1.fresh hg).2⟩
    have hbs1 := HM.out.1.set3 HM.out.2.1 hb hww hf 2 (.slice A4 (putL x key value).length c4)
    have hd1 := HM.out.2.1.set3 2 (.slice A4 (putL x key value).length c4)
    exact (hd1.set3 4 (.bool true)).fin (hbs1.set3 hd1 hb hww hf 4 (.bool true)) hb hww hf HM.out.2.2.2.2 ((((HD.out.2.mono (fun _ x => x.elim) : Keep (In (F ++ G)) w w1)).trans HM.out.2.2.1 (fun z hz => .inl (List.mem_append_left _ hz))).trans (((Keep.refl (fun z => z = w.heap.size) _).setCell (p := ⟨w.heap.size, 2, none⟩) (.inl rfl) _).setCell (p := ⟨w.heap.size, 4, none⟩) (.inl rfl) _) (fun z hz => .inr (by omega))) (fun z hz => hz.elim (fun h => (HM.out.2.2.2.1 z h).imp id (fun h => .inr (Nat.le_trans HD.out.2.size h))) (fun h => .inr (.inl h))) rfl
end Go.Proofs.Ytdmckjojeddaaaa

namespace Go.Proofs.Ytdmckjojeddaaaa
open Go.RowKit Go.Proofs.YtdmckjojeddaaaaKit Go.Proofs.YtdmckjojeddaaaaPlain


theorem D3.set5 {w W : World} {u0 u1 u2 u3 u4 : Value} {cs5 cs6 : Array Value} (d : D3 w #[u0, u1, u2, u3, u4] cs5 cs6 W) (v0 v1 v2 v3 v4 : Value) :
    D3 w #[v0, v1, v2, v3, v4] cs5 cs6 (((((W.setCell ⟨w.heap.size, 4, none⟩ v4).setCell ⟨w.heap.size, 0, none⟩ v0).setCell ⟨w.heap.size, 1, none⟩ v1).setCell ⟨w.heap.size, 3, none⟩ v3).setCell ⟨w.heap.size, 2, none⟩ v2) := by
  have d1 : D3 w #[u0, u1, u2, u3, v4] cs5 cs6 _ := d.set3 4 v4
  have d2 : D3 w #[v0, u1, u2, u3, v4] cs5 cs6 _ := d1.set3 0 v0
  have d3 : D3 w #[v0, v1, u2, u3, v4] cs5 cs6 _ := d2.set3 1 v1
  have d4 : D3 w #[v0, v1, u2, v3, v4] cs5 cs6 _ := d3.set3 3 v3
  exact d4.set3 2 v2
theorem BSt.set5 {base : Nat} {w0 w W : World} {seed : Int} {a b : Nat} {x y : PairL} {F G : List Nat} {xA yA : Option Addr} {xc yc : Nat} {cs3 cs5 cs6 : Array Value} (h : BSt base w0 W a b seed x y F G xA xc yA yc) (d : D3 w cs3 cs5 cs6 W) (hb : base ≤ w0.heap.size) (hw : w0.heap.size ≤ w.heap.size)
    (hf : ∀ g, w.heap.size ≤ g → g < w.heap.size + 3 → g ∉ F ∧ g ∉ G) (v0 v1 v2 v3 v4 : Value) : BSt base w0 (((((W.setCell ⟨w.heap.size, 4, none⟩ v4).setCell ⟨w.heap.size, 0, none⟩ v0).setCell ⟨w.heap.size, 1, none⟩ v1).setCell ⟨w.heap.size, 3, none⟩ v3).setCell ⟨w.heap.size, 2, none⟩ v2) a b seed x y F G xA xc yA yc :=
  ((((h.set3 d hb hw hf 4 v4).set3 (d.set3 4 v4) hb hw hf 0 v0).set3 ((d.set3 4 v4).set3 0 v0) hb hw hf 1 v1).set3 (((d.set3 4 v4).set3 0 v0).set3 1 v1) hb hw hf 3 v3).set3 ((((d.set3 4 v4).set3 0 v0).set3 1 v1).set3 3 v3) hb hw hf 2 v2
theorem keepS {w W : World} (v0 v1 v2 v3 v4 : Value) : Keep (fun z => z = w.heap.size) W (((((W.setCell ⟨w.heap.size, 4, none⟩ v4).setCell ⟨w.heap.size, 0, none⟩ v0).setCell ⟨w.heap.size, 1, none⟩ v1).setCell ⟨w.heap.size, 3, none⟩ v3).setCell ⟨w.heap.size, 2, none⟩ v2) :=
  ((((((Keep.refl (fun z => z = w.heap.size) W).setCell (p := ⟨w.heap.size, 4, none⟩) (.inl rfl) v4).setCell (p := ⟨w.heap.size, 0, none⟩) (.inl rfl) v0).setCell (p := ⟨w.heap.size, 1, none⟩) (.inl rfl) v1).setCell (p := ⟨w.heap.size, 3, none⟩) (.inl rfl) v3).setCell (p := ⟨w.heap.size, 2, none⟩) (.inl rfl) v2)

theorem D3.fin' {base : Nat} {w0 w W : World} {seed : Int} {a b : Nat} {x y : PairL} {F G : List Nat} {xA yA : Option Addr} {xn yn xc yc k : Nat} {cs3 cs5 : Array Value} {u0 u1 u2 u3 u4 : Value}
    (d : D3 w cs3 cs5 #[u0, u1, u2, u3, u4] W) (h : BSt base w0 W a b seed x y F G xA xc yA yc) (hxn : xn = x.length) (hyn : yn = y.length) (hb : base ≤ w0.heap.size) (hw : w0.heap.size ≤ w.heap.size) (hf : ∀ g, w.heap.size ≤ g → g < w.heap.size + 3 → g ∉ F ∧ g ∉ G) (hk : x.length + y.length ≤ k) {F0 G0 : List Nat} (hkp : Keep (In (F0 ++ G0)) w W) (hmem : ∀ z, z ∈ F ∨ z ∈ G → z ∈ F0 ∨ z ∈ G0 ∨ w.heap.size ≤ z) {tmps : Array Value} (ht : tmps.getD 6 undef = .pointer (some ⟨w.heap.size + 1 + 1, 0, none⟩)) :
    bodyPost Try.prog Try.f59 (BRet base w0 w F0 G0 seed k) .ret { tmps := tmps, defers := [] } (((((W.setCell ⟨w.heap.size + 1 + 1, 0, none⟩ (.pointer (some ⟨a, 0, none⟩))).setCell ⟨w.heap.size + 1 + 1, 1, none⟩ (.pointer (some ⟨b, 0, none⟩))).setCell ⟨w.heap.size + 1 + 1, 2, none⟩ (.slice xA xn xc)).setCell ⟨w.heap.size + 1 + 1, 3, none⟩ (.slice yA yn yc)).setCell ⟨w.heap.size + 1 + 1, 4, none⟩ (.bool true)) := by
  subst hxn hyn
  exact d.fin h hb hw hf hk hkp hmem ht

set_option maxHeartbeats 4000000 in
set_option maxRecDepth 100000 in
theorem done8 {base : Nat} {w0 w : World} {a b : Nat} {seed : Int} {x y : PairL} {F G : List Nat} {xA yA : Option Addr} {xc yc : Nat} {A : Option Addr} {n c : Nat} {V : Option Addr} {vn vc : Nat} {B : Option Addr} {n2 c2 : Nat} {bd : Bool} {N : Int} {key value high : List UInt8}
    (h : BSt base w0 w a b seed x y F G xA xc yA yc) (hk : Bytes base w A n key) (hv : Bytes base w V vn value) (hk2 : Bytes base w B n2 high) (hb : base ≤ w0.heap.size) (hsz : x.length + y.length ≤ 30000) (hn : n ≤ 1000000) (hvn : vn ≤ 1000000) (hn2 : n2 ≤ 1000000) :
    Calls Try.prog 59 #[.agg #[.pointer (some ⟨a, 0, none⟩), .pointer (some ⟨b, 0, none⟩), .slice xA x.length xc, .slice yA y.length yc, .bool true], .int .u64 seed, .agg #[.int .i64 8, .slice A n c, .slice V vn vc, .slice B n2 c2, .bool bd, .int .i64 N]] w (BRet base w0 w F G seed (x.length + y.length + 1)) := by
  have hbw : base ≤ w.heap.size := Nat.le_trans hb h.two.keep.size
  obtain ⟨d1, k1⟩ := D3.start w #[.pointer (some ⟨a, 0, none⟩), .pointer (some ⟨b, 0, none⟩), .slice xA x.length xc, .slice yA y.length yc, .bool true] #[.int .i64 8, .slice A n c, .slice V vn vc, .slice B n2 c2, .bool bd, .int .i64 N] #[.pointer none, .pointer none, .slice none 0 0, .slice none 0 0, .bool false]
  have f0 := d1.b3.cell 0
  have f1 := d1.b3.cell 1
  have f2 := d1.b3.cell 2
  have f3 := d1.b3.cell 3
  have f4 := d1.b3.cell 4
  have p0 := d1.b5.cell 0
  have p1 := d1.b5.cell 1
  have p2 := d1.b5.cell 2
  have p3 := d1.b5.cell 3
  have p4 := d1.b5.cell 4
  have p5 := d1.b5.cell 5
  have g0 := d1.b6.cell 0
  have y0 := d1.b6.frozen 0
  have z0 := d1.b3.frozen 0
  have g1 := d1.b6.cell 1
  have y1 := d1.b6.frozen 1
  have z1 := d1.b3.frozen 1
  have g2 := d1.b6.cell 2
  have y2 := d1.b6.frozen 2
  have z2 := d1.b3.frozen 2
  have g3 := d1.b6.cell 3
  have y3 := d1.b6.frozen 3
  have z3 := d1.b3.frozen 3
  have g4 := d1.b6.cell 4
  have y4 := d1.b6.frozen 4
  have z4 := d1.b3.frozen 4
  simp only [List.getElem?_toArray, List.getElem?_cons_zero, List.getElem?_cons_succ] at f0 f1 f2 f3 f4 p0 p1 p2 p3 p4 p5 g0 g1 g2 g3 g4
  have HD := Lib.hid (show _ ∧ _ from ⟨d1, k1⟩)
  have H := Lib.hid (show _ ∧ _ ∧ _ ∧ _ from ⟨h, hk, hv, hk2⟩)
  clear d1 k1 h hk hv hk2
  have hok := H.out.1.two.ma.okay
  have hsm := hok.small
  have hcx := H.out.1.cx
  have HM0 := Lib.hid (H.out.1.two.ma.new_ HD.out.2).mut
  have hl6 := HD.out.1.b6.lt
  have hrk := rank_le key x
  have HCT := Lib.hid (cut_any (c := c) (H.out.1.two.ma.new_ HD.out.2) (H.out.2.1.new_ HD.out.2) (Nat.le_trans hbw HD.out.2.size) (by omega))
  have HRR := Lib.hid (fun W (px : Pairs base W xA x.length x) (bk : Bytes base W A n key) => rrank_any (b1 := base) (b2 := base) xA A _ xc n c x key W px bk hsm hn (by omega))
  clear hok
  go_enter Try.func59, Try.ntmps59
  go_wp2_with fail
  generalize hW1 : ((w.alloc (.cells #[.pointer (some ⟨a, 0, none⟩), .pointer (some ⟨b, 0, none⟩), .slice xA x.length xc, .slice yA y.length yc, .bool true] 111)).alloc (.cells #[.int .i64 8, .slice A n c, .slice V vn vc, .slice B n2 c2, .bool bd, .int .i64 N] 113)).alloc (.cells #[.pointer none, .pointer none, .slice none 0 0, .slice none 0 0, .bool false] 111) = w1 at *
  clear hW1
  refine HCT.out.mono ?_
  rintro e w2 ⟨a', b', Fa, Fb, rfl, m0, m1, m2, hap, ha1, ha2, hFa, hFb, k2⟩
  have px2 := (H.out.1.px.new_ HD.out.2).keep k2 HM0.out
  have bk2 := (H.out.2.1.new_ HD.out.2).keep k2 HM0.out
  have d2 := HD.out.1.keep k2 (fun g hg hz => (H.out.1.fresh hg).1 hz)
  have HR2 := Lib.hid (HRR.out w2 px2 bk2)
  obtain ⟨⟨ys1, hr1, hf1⟩, ⟨ys2, hr2, hf2⟩⟩ := pairs_cut px2 hrk hcx rfl
  have HT := Lib.hid (show _ ∧ _ ∧ _ ∧ _ ∧ _ ∧ _ ∧ _ from ⟨m1, m2, hap, hFa, hFb, k2, d2⟩)
  have HPP := Lib.hid (show (∃ ys, _ ∧ _) ∧ (∃ ys, _ ∧ _) from ⟨⟨ys1, hr1, hf1⟩, ⟨ys2, hr2, hf2⟩⟩)
  have HL0 := Lib.hid m0
  generalize rank key x = r at *
  clear f0 f1 f2 f3 f4 p0 p1 p2 p3 p4 p5 g0 g1 g2 g3 g4 y0 y1 y2 y3 y4 z0 z1 z2 z3 z4 HCT HRR m0 m1 m2 hap ha1 ha2 hFa hFb k2 px2 bk2 hr1 hf1 hr2 hf2
  have f2 := d2.b3.cell 2
  have p1 := d2.b5.cell 1
  simp only [List.getElem?_toArray, List.getElem?_cons_zero, List.getElem?_cons_succ] at f2 p1
  clear d2
  go_wp2_with fail
  refine HR2.out.mono ?_
  rintro e w3 ⟨rfl, q, rfl⟩
  have kq := (Keep.refl No w2).drewN q
  have HLN := Lib.hid (len_any (HL0.out.new_ kq))
  have KQ := Lib.hid kq
  have d3 := HT.out.2.2.2.2.2.2.keep kq (fun _ _ x => x)
  have HD3 := Lib.hid d3
  clear HL0 HR2 kq f2 p1
  generalize w2.drewN q = w3 at *
  have f0 := d3.b3.cell 0
  have f1 := d3.b3.cell 1
  have f2 := d3.b3.cell 2
  have f3 := d3.b3.cell 3
  have f4 := d3.b3.cell 4
  have g0 := d3.b6.cell 0
  have y0 := d3.b6.frozen 0
  have z0 := d3.b3.frozen 0
  have g1 := d3.b6.cell 1
  have y1 := d3.b6.frozen 1
  have z1 := d3.b3.frozen 1
  have g2 := d3.b6.cell 2
  have y2 := d3.b6.frozen 2
  have z2 := d3.b3.frozen 2
  have g3 := d3.b6.cell 3
  have y3 := d3.b6.frozen 3
  have z3 := d3.b3.frozen 3
  have g4 := d3.b6.cell 4
  have y4 := d3.b6.frozen 4
  have z4 := d3.b3.frozen 4
  simp only [List.getElem?_toArray, List.getElem?_cons_zero, List.getElem?_cons_succ] at f0 f1 f2 f3 f4 g0 g1 g2 g3 g4
  clear d3
  go_wp2_with (go_at_call 27; refine HLN.out.mono ?_; rintro e w' ⟨rfl, rfl⟩)
  · obtain ⟨ys1, hr1, hf1⟩ := HPP.out.1
    obtain ⟨ys2, hr2, hf2⟩ := HPP.out.2
    rw [if_pos (by assumption)] at hr2
    have hww := H.out.1.two.keep.size
    have q1 : Pairs base w2 xA r (x.take r) := ⟨ys1, hr1, hf1⟩
    have q2 : Pairs base w2 (xA) (x.length - r) (x.drop r) := ⟨ys2, hr2, hf2⟩
    have e1 : (x.take r).length = r := by rw [List.length_take]; omega
    have e2 : (x.drop r).length = x.length - r := List.length_drop ..
    have px3 : Pairs base w3 xA (x.take r).length (x.take r) := by rw [e1]; exact q1.new_ KQ.out
    have py3 : Pairs base w3 (xA) (x.drop r).length (x.drop r) := by rw [e2]; exact q2.new_ KQ.out
    have k01 := H.out.1.two.keep.trans HD.out.2 (fun _ x => x.elim)
    have hFa : ∀ z ∈ Fa, z ∈ F ∨ w1.heap.size ≤ z := HT.out.2.2.2.1
    have hFb : ∀ z ∈ Fb, z ∈ F ∨ w1.heap.size ≤ z := HT.out.2.2.2.2.1
    have hk2 : Keep (In F) w1 w2 := HT.out.2.2.2.2.2.1
    have hge : ∀ z, z ∈ F ∨ w1.heap.size ≤ z → w0.heap.size ≤ z := fun z hz => hz.elim (H.out.1.two.fa z) (fun h => Nat.le_trans k01.size h)
    have hbs : BSt base w0 w3 a' b' seed (x.take r) (x.drop r) Fa Fb xA r (xA) 0 := ⟨⟨HT.out.1.new_ KQ.out, HT.out.2.1.new_ KQ.out, HT.out.2.2.1, fun z hz => hge z (hFa z hz), fun z hz => hge z (hFb z hz), (k01.trans hk2 (fun z hz => .inr (H.out.1.two.fa z hz))).trans KQ.out (fun _ x => x.elim)⟩, px3, py3, by omega, by omega⟩
    have hf : ∀ g, w.heap.size ≤ g → g < w.heap.size + 3 → g ∉ Fa ∧ g ∉ Fb := fun g hg hg3 => ⟨fun hz => (hFa g hz).elim (H.out.1.fresh hg).1 (fun h => by omega), fun hz => (hFb g hz).elim (H.out.1.fresh hg).1 (fun h => by omega)⟩
    have d5 := HD3.out.set5 (.pointer (some ⟨a', 0, none⟩)) (.pointer (some ⟨b', 0, none⟩)) (.slice xA r r) (.slice (xA) (x.length - r) 0) (.bool true)
    have s5 := hbs.set5 HD3.out hb hww hf (.pointer (some ⟨a', 0, none⟩)) (.pointer (some ⟨b', 0, none⟩)) (.slice xA r r) (.slice (xA) (x.length - r) 0) (.bool true)
    have K5 := keepS (w := w) (W := w3) (.pointer (some ⟨a', 0, none⟩)) (.pointer (some ⟨b', 0, none⟩)) (.slice xA r r) (.slice (xA) (x.length - r) 0) (.bool true)
    exact d5.fin' s5 e1.symm e2.symm hb hww hf (by omega) (((((HD.out.2.mono (fun _ x => x.elim) : Keep (In (F ++ G)) w w1)).trans hk2 (fun z hz => .inl (List.mem_append_left _ hz))).trans KQ.out (fun _ x => x.elim)).trans K5 (fun z hz => .inr (by omega))) (fun z hz => (hz.elim (hFa z) (hFb z)).imp id (fun h => .inr (Nat.le_trans HD.out.2.size h))) rfl
  · obtain ⟨ys1, hr1, hf1⟩ := HPP.out.1
    obtain ⟨ys2, hr2, hf2⟩ := HPP.out.2
    rw [if_neg (by assumption)] at hr2
    have hww := H.out.1.two.keep.size
    have q1 : Pairs base w2 xA r (x.take r) := ⟨ys1, hr1, hf1⟩
    have q2 : Pairs base w2 (Option.map (fun x => x.add (r * 2)) xA) (x.length - r) (x.drop r) := ⟨ys2, hr2, hf2⟩
    have e1 : (x.take r).length = r := by rw [List.length_take]; omega
    have e2 : (x.drop r).length = x.length - r := List.length_drop ..
    have px3 : Pairs base w3 xA (x.take r).length (x.take r) := by rw [e1]; exact q1.new_ KQ.out
    have py3 : Pairs base w3 (Option.map (fun x => x.add (r * 2)) xA) (x.drop r).length (x.drop r) := by rw [e2]; exact q2.new_ KQ.out
    have k01 := H.out.1.two.keep.trans HD.out.2 (fun _ x => x.elim)
    have hFa : ∀ z ∈ Fa, z ∈ F ∨ w1.heap.size ≤ z := HT.out.2.2.2.1
    have hFb : ∀ z ∈ Fb, z ∈ F ∨ w1.heap.size ≤ z := HT.out.2.2.2.2.1
    have hk2 : Keep (In F) w1 w2 := HT.out.2.2.2.2.2.1
    have hge : ∀ z, z ∈ F ∨ w1.heap.size ≤ z → w0.heap.size ≤ z := fun z hz => hz.elim (H.out.1.two.fa z) (fun h => Nat.le_trans k01.size h)
    have hbs : BSt base w0 w3 a' b' seed (x.take r) (x.drop r) Fa Fb xA xc (Option.map (fun x => x.add (r * 2)) xA) (xc - r) := ⟨⟨HT.out.1.new_ KQ.out, HT.out.2.1.new_ KQ.out, HT.out.2.2.1, fun z hz => hge z (hFa z hz), fun z hz => hge z (hFb z hz), (k01.trans hk2 (fun z hz => .inr (H.out.1.two.fa z hz))).trans KQ.out (fun _ x => x.elim)⟩, px3, py3, by omega, by omega⟩
    have hf : ∀ g, w.heap.size ≤ g → g < w.heap.size + 3 → g ∉ Fa ∧ g ∉ Fb := fun g hg hg3 => ⟨fun hz => (hFa g hz).elim (H.out.1.fresh hg).1 (fun h => by omega), fun hz => (hFb g hz).elim (H.out.1.fresh hg).1 (fun h => by omega)⟩
    have d5 := HD3.out.set5 (.pointer (some ⟨a', 0, none⟩)) (.pointer (some ⟨b', 0, none⟩)) (.slice xA r xc) (.slice (Option.map (fun x => x.add (r * 2)) xA) (x.length - r) (xc - r)) (.bool true)
    have s5 := hbs.set5 HD3.out hb hww hf (.pointer (some ⟨a', 0, none⟩)) (.pointer (some ⟨b', 0, none⟩)) (.slice xA r xc) (.slice (Option.map (fun x => x.add (r * 2)) xA) (x.length - r) (xc - r)) (.bool true)
    have K5 := keepS (w := w) (W := w3) (.pointer (some ⟨a', 0, none⟩)) (.pointer (some ⟨b', 0, none⟩)) (.slice xA r xc) (.slice (Option.map (fun x => x.add (r * 2)) xA) (x.length - r) (xc - r)) (.bool true)
    exact d5.fin' s5 e1.symm e2.symm hb hww hf (by omega) (((((HD.out.2.mono (fun _ x => x.elim) : Keep (In (F ++ G)) w w1)).trans hk2 (fun z hz => .inl (List.mem_append_left _ hz))).trans KQ.out (fun _ x => x.elim)).trans K5 (fun z hz => .inr (by omega))) (fun z hz => (hz.elim (hFa z) (hFb z)).imp id (fun h => .inr (Nat.le_trans HD.out.2.size h))) rfl
end Go.Proofs.Ytdmckjojeddaaaa

namespace Go.Proofs.Ytdmckjojeddaaaa
open Go.RowKit Go.Proofs.YtdmckjojeddaaaaKit Go.Proofs.YtdmckjojeddaaaaPlain


set_option maxHeartbeats 4000000 in
set_option maxRecDepth 100000 in
theorem done13 {base : Nat} {w0 w : World} {a b : Nat} {seed : Int} {x y : PairL} {F G : List Nat} {xA yA : Option Addr} {xc yc : Nat} {A : Option Addr} {n c : Nat} {V : Option Addr} {vn vc : Nat} {B : Option Addr} {n2 c2 : Nat} {bd : Bool} {N : Int} {key value high : List UInt8}
    (h : BSt base w0 w a b seed x y F G xA xc yA yc) (hk : Bytes base w A n key) (hv : Bytes base w V vn value) (hk2 : Bytes base w B n2 high) (hb : base ≤ w0.heap.size) (hsz : x.length + y.length ≤ 30000) (hn : n ≤ 1000000) (hvn : vn ≤ 1000000) (hn2 : n2 ≤ 1000000) (hs0 : 0 ≤ seed ∧ seed < 18446744073709551616) :
    Calls Try.prog 59 #[.agg #[.pointer (some ⟨a, 0, none⟩), .pointer (some ⟨b, 0, none⟩), .slice xA x.length xc, .slice yA y.length yc, .bool true], .int .u64 seed, .agg #[.int .i64 13, .slice A n c, .slice V vn vc, .slice B n2 c2, .bool bd, .int .i64 N]] w (BRet base w0 w F G seed (x.length + y.length + 1)) := by
  have hbw : base ≤ w.heap.size := Nat.le_trans hb h.two.keep.size
  obtain ⟨d1, k1⟩ := D3.start w #[.pointer (some ⟨a, 0, none⟩), .pointer (some ⟨b, 0, none⟩), .slice xA x.length xc, .slice yA y.length yc, .bool true] #[.int .i64 13, .slice A n c, .slice V vn vc, .slice B n2 c2, .bool bd, .int .i64 N] #[.pointer none, .pointer none, .slice none 0 0, .slice none 0 0, .bool false]
  have f0 := d1.b3.cell 0
  have f1 := d1.b3.cell 1
  have f2 := d1.b3.cell 2
  have f3 := d1.b3.cell 3
  have f4 := d1.b3.cell 4
  have p0 := d1.b5.cell 0
  have p1 := d1.b5.cell 1
  have p2 := d1.b5.cell 2
  have p3 := d1.b5.cell 3
  have p4 := d1.b5.cell 4
  have p5 := d1.b5.cell 5
  have g0 := d1.b6.cell 0
  have y0 := d1.b6.frozen 0
  have z0 := d1.b3.frozen 0
  have g1 := d1.b6.cell 1
  have y1 := d1.b6.frozen 1
  have z1 := d1.b3.frozen 1
  have g2 := d1.b6.cell 2
  have y2 := d1.b6.frozen 2
  have z2 := d1.b3.frozen 2
  have g3 := d1.b6.cell 3
  have y3 := d1.b6.frozen 3
  have z3 := d1.b3.frozen 3
  have g4 := d1.b6.cell 4
  have y4 := d1.b6.frozen 4
  have z4 := d1.b3.frozen 4
  simp only [List.getElem?_toArray, List.getElem?_cons_zero, List.getElem?_cons_succ] at f0 f1 f2 f3 f4 p0 p1 p2 p3 p4 p5 g0 g1 g2 g3 g4
  have HD := Lib.hid (show _ ∧ _ from ⟨d1, k1⟩)
  have H := Lib.hid (show _ ∧ _ ∧ _ ∧ _ from ⟨h, hk, hv, hk2⟩)
  clear d1 k1 h hk hv hk2
  have hl6 := HD.out.1.b6.lt
  have MA := (H.out.1.two.ma.new_ HD.out.2)
  have MB := (H.out.1.two.mb.new_ HD.out.2)
  have HA := Lib.hid (show ∃ r, MapHas base _ a seed r from by obtain ⟨t, h1, _⟩ := MA; exact ⟨_, h1.has⟩)
  have HB := Lib.hid (show ∃ r, MapHas base _ b seed r from by obtain ⟨t, h1, _⟩ := MB; exact ⟨_, h1.has⟩)
  clear MA MB
  go_enter Try.func59, Try.ntmps59
  go_wp2_with fail
  generalize hW1 : ((w.alloc (.cells #[.pointer (some ⟨a, 0, none⟩), .pointer (some ⟨b, 0, none⟩), .slice xA x.length xc, .slice yA y.length yc, .bool true] 111)).alloc (.cells #[.int .i64 13, .slice A n c, .slice V vn vc, .slice B n2 c2, .bool bd, .int .i64 N] 113)).alloc (.cells #[.pointer none, .pointer none, .slice none 0 0, .slice none 0 0, .bool false] 111) = w1 at *
  clear hW1
  obtain ⟨ra, hra⟩ := HA.out
  obtain ⟨rb, hrb⟩ := HB.out
  have hbw1 : base ≤ w1.heap.size := Nat.le_trans hbw HD.out.2.size
  have ha3 : a ≠ w.heap.size := fun e => by have := H.out.1.two.ma.lt (show a ∈ F from by obtain ⟨_, _, _, _, e⟩ := H.out.1.two.ma; rw [e]; exact List.mem_cons_self); omega
  have hb3 : b ≠ w.heap.size := fun e => by have := H.out.1.two.mb.lt (show b ∈ G from by obtain ⟨_, _, _, _, e⟩ := H.out.1.two.mb; rw [e]; exact List.mem_cons_self); omega
  have hdk : ∀ {W W' : World}, Drawn W W' → Keep No W W' := fun h => by obtain ⟨q, rfl⟩ := h; exact (Keep.refl No _).drewN q
  have HK1 := Lib.hid (fun W (k : Keep (fun z => z = w.heap.size) w1 W) => (kin_seeds (hra.keep k ha3) (hrb.keep k hb3)).mono (fun e w' h => (show e = .returned (.bool true) ∧ Keep No W w' from ⟨by rw [h.1, beq_self_eq_true], hdk h.2⟩)))
  have HK2 := Lib.hid (fun W (k : Keep (fun z => z = w.heap.size) w1 W) (m : Nat) (hm : MapHas base W m seed none) => (kin_seeds (hra.keep k ha3) hm).mono (fun e w' h => (show e = .returned (.bool true) ∧ Keep No W w' from ⟨by rw [h.1, beq_self_eq_true], hdk h.2⟩)))
  have HK3 := Lib.hid (fun W (k : Keep (fun z => z = w.heap.size) w1 W) (s2 : Int) (hs2 : (seed == s2) = false) (m : Nat) (hm : MapHas base W m s2 none) => (kin_seeds (hra.keep k ha3) hm).mono (fun e w' h => (show e = .returned (.bool false) ∧ Keep No W w' from ⟨by rw [h.1, hs2], hdk h.2⟩)))
  have HKV := Lib.hid (fun W (k : Keep (fun z => z = w.heap.size) w1 W) => (kin_void_r (v := none) (hra.keep k ha3) (.inl rfl) (by simp)).mono (fun e w' h => (show e = .returned (.bool false) ∧ Keep No W w' from ⟨h.1, by have h2 := h.2; exact hdk (by first | exact h2 | exact h2.1)⟩)))
  have HSW := Lib.hid (show (seed == IntKind.u64.wrap (seed + 1)) = false from by
    obtain ⟨hs1, hs2⟩ := hs0
    by_cases hlt : seed = 18446744073709551615
    · subst hlt; decide
    · rw [wrap_u64_fit (by omega) (by omega)]; exact beq_eq_false_iff_ne.2 (by omega))
  have HN := Lib.hid (fun W (k : Keep (fun z => z = w.heap.size) w1 W) (s : Int) => (new_any s W).mono (fun e w' h => (show ∃ m, e = .returned (.pointer (some ⟨m, 0, none⟩)) ∧ MapHas base w' m s none ∧ Keep No W w' from ⟨W.heap.size, h.1, h.2 ▸ ⟨Nat.le_trans hbw1 k.size, Blk.new _ _ _⟩, h.2 ▸ (Keep.refl No W).alloc _⟩)))
  have HSO := Lib.hid (fun W (d : D3 w #[.pointer (some ⟨a, 0, none⟩), .pointer (some ⟨b, 0, none⟩), .slice xA x.length xc, .slice yA y.length yc, .bool true] #[.int .i64 13, .slice A n c, .slice V vn vc, .slice B n2 c2, .bool bd, .int .i64 N] #[.pointer none, .pointer none, .slice none 0 0, .slice none 0 0, .bool false] W) (k : Keep (fun z => z = w.heap.size) w1 W) => (show W.cell? ⟨w.heap.size, 0, none⟩ = some (.pointer (some ⟨a, 0, none⟩)) ∧ W.cell? ⟨w.heap.size, 1, none⟩ = some (.pointer (some ⟨b, 0, none⟩)) ∧ W.frozen? ⟨w.heap.size, 4, none⟩ = false ∧ W.cell? ⟨w.heap.size, 4, none⟩ = some (.bool true) ∧ D3 w #[.pointer (some ⟨a, 0, none⟩), .pointer (some ⟨b, 0, none⟩), .slice xA x.length xc, .slice yA y.length yc, .bool true] #[.int .i64 13, .slice A n c, .slice V vn vc, .slice B n2 c2, .bool bd, .int .i64 N] #[.pointer none, .pointer none, .slice none 0 0, .slice none 0 0, .bool false] W ∧ Keep (fun z => z = w.heap.size) w1 W from ⟨d.b3.cell 0, d.b3.cell 1, d.b3.frozen 4, d.b3.cell 4, d, k⟩))
  have HSS := Lib.hid (fun W (d : D3 w #[.pointer (some ⟨a, 0, none⟩), .pointer (some ⟨b, 0, none⟩), .slice xA x.length xc, .slice yA y.length yc, .bool true] #[.int .i64 13, .slice A n c, .slice V vn vc, .slice B n2 c2, .bool bd, .int .i64 N] #[.pointer none, .pointer none, .slice none 0 0, .slice none 0 0, .bool false] W) (k : Keep (fun z => z = w.heap.size) w1 W) => HSO.out (W.setCell ⟨w.heap.size, 4, none⟩ (.bool true)) (d.set3 4 (.bool true)) (k.setCell (p := ⟨w.heap.size, 4, none⟩) (.inl rfl) (.bool true)))
  clear f0 f1 f2 f3 f4 p0 p1 p2 p3 p4 p5 g0 g1 g2 g3 g4 y0 y1 y2 y3 y4 z0 z1 z2 z3 z4
  go_region_held3 (fun W => W.cell? ⟨w.heap.size, 0, none⟩ = some (.pointer (some ⟨a, 0, none⟩)) ∧ W.cell? ⟨w.heap.size, 1, none⟩ = some (.pointer (some ⟨b, 0, none⟩)) ∧ W.frozen? ⟨w.heap.size, 4, none⟩ = false ∧ W.cell? ⟨w.heap.size, 4, none⟩ = some (.bool true) ∧ D3 w #[.pointer (some ⟨a, 0, none⟩), .pointer (some ⟨b, 0, none⟩), .slice xA x.length xc, .slice yA y.length yc, .bool true] #[.int .i64 13, .slice A n c, .slice V vn vc, .slice B n2 c2, .bool bd, .int .i64 N] #[.pointer none, .pointer none, .slice none 0 0, .slice none 0 0, .bool false] W ∧ Keep (fun z => z = w.heap.size) w1 W)
    (first
      | exact HSO.out _ (HD.out.1.keep ((Keep.refl No w1).drewN 1) (fun _ _ x => x)) ((Keep.refl _ w1).drewN 1)
      | (go_split_ands; exact HSO.out _ (D3.keep (by assumption) hkd (fun _ _ x => x)) (Keep.trans (by assumption) hkd (fun _ x => x.elim)))
      | (go_split_ands; exact HSS.out _ (by assumption) (by assumption))
      | go_keep)
    (first
      | (go_at_call_of 50 (Value.pointer (some ⟨b, 0, none⟩)); go_split_ands; refine (HK1.out _ (by assumption)).mono ?_; rintro e w' ⟨rfl, hkd⟩)
      | (go_at_call_of 50 (Value.pointer none); go_split_ands; refine (HKV.out _ (by assumption)).mono ?_; rintro e w' ⟨rfl, hkd⟩)
      | (go_at_call_of 50 (Value.pointer (some ⟨m2, 0, none⟩)); go_split_ands; refine (HK3.out _ (by assumption) _ HSW.out m2 HM2.out).mono ?_; rintro e w' ⟨rfl, hkd⟩)
      | (go_at_call_of 50 (Value.pointer (some ⟨m1, 0, none⟩)); go_split_ands; refine (HK2.out _ (by assumption) m1 HM1.out).mono ?_; rintro e w' ⟨rfl, hkd⟩)
      | (go_at_call_of 20 (Value.int .u64 seed); go_split_ands; refine (HN.out _ (by assumption) seed).mono ?_; rintro e w' ⟨m1, rfl, hm1, hkd⟩; have HM1 := Lib.hid hm1; clear hm1)
      | (go_at_call 20; go_split_ands; refine (HN.out _ (by assumption) _).mono ?_; rintro e w' ⟨m2, rfl, hm2, hkd⟩; have HM2 := Lib.hid hm2; clear hm2))
  all_goals
    go_split_ands
    generalize World.setCell _ ⟨w.heap.size, 4, none⟩ (.bool true) = w9 at *
    have d9 : D3 w #[.pointer (some ⟨a, 0, none⟩), .pointer (some ⟨b, 0, none⟩), .slice xA x.length xc, .slice yA y.length yc, .bool true] #[.int .i64 13, .slice A n c, .slice V vn vc, .slice B n2 c2, .bool bd, .int .i64 N] #[.pointer none, .pointer none, .slice none 0 0, .slice none 0 0, .bool false] w9 := by assumption
    have k9 : Keep (fun z => z = w.heap.size) w1 w9 := by assumption
    have HE := Lib.hid (show _ ∧ _ from ⟨d9, k9⟩)
    have f0 := d9.b3.cell 0
    have f1 := d9.b3.cell 1
    have f2 := d9.b3.cell 2
    have f3 := d9.b3.cell 3
    have f4 := d9.b3.cell 4
    have g0 := d9.b6.cell 0
    have y0 := d9.b6.frozen 0
    have z0 := d9.b3.frozen 0
    have g1 := d9.b6.cell 1
    have y1 := d9.b6.frozen 1
    have z1 := d9.b3.frozen 1
    have g2 := d9.b6.cell 2
    have y2 := d9.b6.frozen 2
    have z2 := d9.b3.frozen 2
    have g3 := d9.b6.cell 3
    have y3 := d9.b6.frozen 3
    have z3 := d9.b3.frozen 3
    have g4 := d9.b6.cell 4
    have y4 := d9.b6.frozen 4
    have z4 := d9.b3.frozen 4
    simp only [List.getElem?_toArray, List.getElem?_cons_zero, List.getElem?_cons_succ] at f0 f1 f2 f3 f4 g0 g1 g2 g3 g4
    clear d9 k9
    go_wp2
    have hww := H.out.1.two.keep.size
    have hf : ∀ g, w.heap.size ≤ g → g < w.heap.size + 3 → g ∉ F ∧ g ∉ G := fun g hg _ => H.out.1.fresh hg
    have hbs : BSt base w0 w9 a b seed x y F G xA xc yA yc := (H.out.1.new_ HD.out.2).cells HD.out.1.b3 HD.out.1.b3 (HE.out.2.mono (fun z hz => .inl hz)) hb hww hww (hf _ (Nat.le_refl _) (by omega)) (hf _ (Nat.le_refl _) (by omega)) (by decide) (by decide)
    exact HE.out.1.fin hbs hb hww hf (Nat.le_succ _) ((HD.out.2.mono (fun _ x => x.elim)).trans HE.out.2 (fun z hz => .inr (by omega))) (fun z hz => hz.elim .inl (fun h => .inr (.inl h))) rfl
end Go.Proofs.Ytdmckjojeddaaaa
