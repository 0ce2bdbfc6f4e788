/- Contract of the law's done, at the loading of an image. Conditions: each names its own. -/
import Derived.Test.YtdmckjojeddaaaaPE
import Derived.Test.YtdmckjojeddaaaaLG
import Derived.Test.YtdmckjojeddaaaaPG
namespace Go.Proofs.Ytdmckjojeddaaaa
open Go.RowKit Go.Proofs.YtdmckjojeddaaaaKit Go.Proofs.YtdmckjojeddaaaaPlain


set_option maxHeartbeats 4000000 in
set_option maxRecDepth 100000 in
theorem done12 {base : Nat} {w0 w : World} {a b : Nat} {seed : Int} {x y : PairL} {F G : List Nat} {xA yA : Option Addr} {xc yc : Nat} {A : Option Addr} {n c : Nat} {V : Option Addr} {vn vc : Nat} {B : Option Addr} {n2 c2 : Nat} {bd : Bool} {N : Int} {key value high : List UInt8}
    (h : BSt base w0 w a b seed x y F G xA xc yA yc) (hk : Bytes base w A n key) (hv : Bytes base w V vn value) (hk2 : Bytes base w B n2 high) (hb : base ≤ w0.heap.size) (hsz : x.length + y.length ≤ 30000) (hn : n ≤ 1000000) (hvn : vn ≤ 1000000) (hn2 : n2 ≤ 1000000) :
    Calls Try.prog 59 #[.agg #[.pointer (some ⟨a, 0, none⟩), .pointer (some ⟨b, 0, none⟩), .slice xA x.length xc, .slice yA y.length yc, .bool true], .int .u64 seed, .agg #[.int .i64 12, .slice A n c, .slice V vn vc, .slice B n2 c2, .bool bd, .int .i64 N]] w (BRet base w0 w F G seed (x.length + y.length + 1)) := by
  have hbw : base ≤ w.heap.size := Nat.le_trans hb h.two.keep.size
  obtain ⟨d1, k1⟩ := D3.start w #[.pointer (some ⟨a, 0, none⟩), .pointer (some ⟨b, 0, none⟩), .slice xA x.length xc, .slice yA y.length yc, .bool true] #[.int .i64 12, .slice A n c, .slice V vn vc, .slice B n2 c2, .bool bd, .int .i64 N] #[.pointer none, .pointer none, .slice none 0 0, .slice none 0 0, .bool false]
  have f0 := d1.b3.cell 0
  have f1 := d1.b3.cell 1
  have f2 := d1.b3.cell 2
  have f3 := d1.b3.cell 3
  have f4 := d1.b3.cell 4
  have p0 := d1.b5.cell 0
  have p1 := d1.b5.cell 1
  have p2 := d1.b5.cell 2
  have p3 := d1.b5.cell 3
  have p4 := d1.b5.cell 4
  have p5 := d1.b5.cell 5
  have g0 := d1.b6.cell 0
  have y0 := d1.b6.frozen 0
  have z0 := d1.b3.frozen 0
  have g1 := d1.b6.cell 1
  have y1 := d1.b6.frozen 1
  have z1 := d1.b3.frozen 1
  have g2 := d1.b6.cell 2
  have y2 := d1.b6.frozen 2
  have z2 := d1.b3.frozen 2
  have g3 := d1.b6.cell 3
  have y3 := d1.b6.frozen 3
  have z3 := d1.b3.frozen 3
  have g4 := d1.b6.cell 4
  have y4 := d1.b6.frozen 4
  have z4 := d1.b3.frozen 4
  simp only [List.getElem?_toArray, List.getElem?_cons_zero, List.getElem?_cons_succ] at f0 f1 f2 f3 f4 p0 p1 p2 p3 p4 p5 g0 g1 g2 g3 g4
  have HD := Lib.hid (show _ ∧ _ from ⟨d1, k1⟩)
  have H := Lib.hid (show _ ∧ _ ∧ _ ∧ _ from ⟨h, hk, hv, hk2⟩)
  clear d1 k1 h hk hv hk2
  have hs := H.out.1.two.ma.sorted
  have hok := H.out.1.two.ma.okay
  have HI := Lib.hid (image_any (H.out.1.two.ma.new_ HD.out.2) (Nat.le_trans hbw HD.out.2.size) (by omega))
  have HX := Lib.hid (show Imaged seed (imageL seed x) ∧ ∀ l', Sorted l' → Okay l' → l'.length ≤ 100000 → imageL seed x = imageL seed l' → l' = x from ⟨⟨x, hs, hok, by omega, rfl⟩, fun l' h1 h2 h3 e => by
    have h4 := rload_image (seed := seed) h1 h2 h3
    rw [← e, rload_image hs hok (by omega)] at h4
    exact (Option.some.inj h4).symm⟩)
  generalize imageL seed x = bs at *
  clear hs hok
  go_enter Try.func59, Try.ntmps59
  go_wp2_with fail
  generalize hW1 : ((w.alloc (.cells #[.pointer (some ⟨a, 0, none⟩), .pointer (some ⟨b, 0, none⟩), .slice xA x.length xc, .slice yA y.length yc, .bool true] 111)).alloc (.cells #[.int .i64 12, .slice A n c, .slice V vn vc, .slice B n2 c2, .bool bd, .int .i64 N] 113)).alloc (.cells #[.pointer none, .pointer none, .slice none 0 0, .slice none 0 0, .bool false] 111) = w1 at *
  clear hW1
  refine HI.out.mono ?_
  rintro e w2 ⟨A2, nn, c2', rfl, o2⟩
  have hc2 : nn ≤ c2' := by obtain ⟨A', c', e', hc'⟩ := own_slice o2.1; injection e' with _ e1 e2; omega
  have k2 := o2.2
  have HL := Lib.hid (load_any (base := base) seed A2 nn c2' bs o2.bytes hc2 (Nat.le_trans hbw (Nat.le_trans HD.out.2.size k2.size)))
  have K2 := Lib.hid k2
  clear o2 HI k2 f0 f1 f2 f3 f4 p0 p1 p2 p3 p4 p5 g0 g1 g2 g3 g4 y0 y1 y2 y3 y4 z0 z1 z2 z3 z4
  go_wp2_with fail
  refine HL.out.mono ?_
  rintro e w3 ⟨k3, ⟨mb, l', F', rfl, hm, hF', hl', hbs⟩ | ⟨_, hno⟩⟩
  · obtain rfl := HX.out.2 l' hm.sorted hm.okay hl' hbs
    have k13 := K2.out.trans k3 (fun _ x => x.elim)
    have d3 := HD.out.1.keep k13 (fun _ _ x => x)
    have HE := Lib.hid (show _ ∧ _ ∧ _ ∧ _ from ⟨d3, hm, fun z hz => Nat.le_trans K2.out.size (hF' z hz), k13⟩)
    clear hm hF' hbs k3 k13 HX HL
    have f0 := d3.b3.cell 0
    have f1 := d3.b3.cell 1
    have f2 := d3.b3.cell 2
    have f3 := d3.b3.cell 3
    have f4 := d3.b3.cell 4
    have g0 := d3.b6.cell 0
    have y0 := d3.b6.frozen 0
    have z0 := d3.b3.frozen 0
    have g1 := d3.b6.cell 1
    have y1 := d3.b6.frozen 1
    have z1 := d3.b3.frozen 1
    have g2 := d3.b6.cell 2
    have y2 := d3.b6.frozen 2
    have z2 := d3.b3.frozen 2
    have g3 := d3.b6.cell 3
    have y3 := d3.b6.frozen 3
    have z3 := d3.b3.frozen 3
    have g4 := d3.b6.cell 4
    have y4 := d3.b6.frozen 4
    have z4 := d3.b3.frozen 4
    simp only [List.getElem?_toArray, List.getElem?_cons_zero, List.getElem?_cons_succ] at f0 f1 f2 f3 f4 g0 g1 g2 g3 g4
    clear d3
    have hl6 := HD.out.1.b6.lt
    go_wp2
    have hk13 := HD.out.2.trans HE.out.2.2.2 (fun _ x => x.elim)
    have hb3 := H.out.1.new_ hk13
    have hmem : ∀ z, z ∈ F' ∨ z ∈ G → z ∈ F ∨ z ∈ G ∨ w1.heap.size ≤ z := fun z hz => hz.elim (fun h => .inr (.inr (HE.out.2.2.1 z h))) (fun h => .inr (.inl h))
    have hf : ∀ g, w.heap.size ≤ g → g < w.heap.size + 3 → g ∉ F' ∧ g ∉ G := fun g hg hg3 => ⟨fun hz => by have := HE.out.2.2.1 g hz; omega, (H.out.1.fresh hg).2⟩
    have hww := H.out.1.two.keep.size
    have hbs : BSt base w0 w3 mb b seed _ y F' G xA xc yA yc := ⟨⟨HE.out.2.1, hb3.two.mb, fun z hz hG => by have h1 := HE.out.2.2.1 z hz; have h2 := (H.out.1.two.mb.lt hG); omega, fun z hz => by have h1 := HE.out.2.2.1 z hz; omega, hb3.two.fb, hb3.two.keep⟩, hb3.px, hb3.py, hb3.cx, hb3.cy⟩
    have hbs1 := hbs.set3 HE.out.1 hb hww hf 4 (.bool true)
    have hd1 := HE.out.1.set3 4 (.bool true)
    exact (hd1.set3 0 (.pointer (some ⟨mb, 0, none⟩))).fin (hbs1.set3 hd1 hb hww hf 0 (.pointer (some ⟨mb, 0, none⟩))) hb hww hf (Nat.le_succ _) ((hk13.mono (fun _ x => x.elim)).trans (((Keep.refl (fun z => z = w.heap.size) _).setCell (p := ⟨w.heap.size, 4, none⟩) (.inl rfl) _).setCell (p := ⟨w.heap.size, 0, none⟩) (.inl rfl) _) (fun z hz => .inr (by omega))) (fun z hz => (hmem z hz).imp id (fun h => h.imp id (fun h => by omega))) rfl
  · exact absurd HX.out.1 hno
end Go.Proofs.Ytdmckjojeddaaaa

namespace Go.Proofs.Ytdmckjojeddaaaa
open Go.RowKit Go.Proofs.YtdmckjojeddaaaaKit Go.Proofs.YtdmckjojeddaaaaPlain

theorem done_any {base : Nat} {w0 w : World} {a b : Nat} {seed : Int} {x y : PairL} {F G : List Nat} {xA yA : Option Addr} {xc yc : Nat} {A : Option Addr} {n c : Nat} {V : Option Addr} {vn vc : Nat} {B : Option Addr} {n2 c2 : Nat} {bd : Bool} {N : Int} {key value high : List UInt8}
    (h : BSt base w0 w a b seed x y F G xA xc yA yc) (hk : Bytes base w A n key) (hv : Bytes base w V vn value) (hk2 : Bytes base w B n2 high) (hb : base ≤ w0.heap.size) (hsz : x.length + y.length ≤ 30000) (hn : n ≤ 1000000) (hvn : vn ≤ 1000000) (hn2 : n2 ≤ 1000000) (hs0 : 0 ≤ seed ∧ seed < 18446744073709551616) (kind : Int) :
    Calls Try.prog 59 #[.agg #[.pointer (some ⟨a, 0, none⟩), .pointer (some ⟨b, 0, none⟩), .slice xA x.length xc, .slice yA y.length yc, .bool true], .int .u64 seed, .agg #[.int .i64 kind, .slice A n c, .slice V vn vc, .slice B n2 c2, .bool bd, .int .i64 N]] w (BRet base w0 w F G seed (x.length + y.length + 1)) := by
  by_cases h0 : kind = 0
  · subst h0; exact done0 h hk hv hk2 hb hsz hn hvn hn2
  by_cases h1 : kind = 1
  · subst h1; exact done1 h hk hv hk2 hb hsz hn hvn hn2
  by_cases h8 : kind = 8
  · subst h8; exact done8 h hk hv hk2 hb hsz hn hvn hn2
  by_cases h9 : kind = 9
  · subst h9; exact done9 h hk hv hk2 hb hsz hn hvn hn2
  by_cases h10 : kind = 10
  · subst h10; exact done10 h hk hv hk2 hb hsz hn hvn hn2
  by_cases h11 : kind = 11
  · subst h11; exact done11 h hk hv hk2 hb hsz hn hvn hn2
  by_cases h12 : kind = 12
  · subst h12; exact done12 h hk hv hk2 hb hsz hn hvn hn2
  by_cases h13 : kind = 13
  · subst h13; exact done13 h hk hv hk2 hb hsz hn hvn hn2 hs0
  exact doneO h hk hv hk2 hb hsz hn hvn hn2 (by simp; omega)
end Go.Proofs.Ytdmckjojeddaaaa
