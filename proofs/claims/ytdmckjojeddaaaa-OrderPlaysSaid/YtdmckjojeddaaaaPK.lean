/- OrderPlays: the walk. Conditions: the seed is a number of 64 bits. -/
import Derived.Test.YtdmckjojeddaaaaPF
import Derived.Test.YtdmckjojeddaaaaOpen
namespace Go.Proofs.Ytdmckjojeddaaaa
open Go.RowKit Go.Proofs.YtdmckjojeddaaaaKit Go.Proofs.YtdmckjojeddaaaaPlain

/-! ### What is done, in memory -/
structure OpV where
  kind : Int
  key : List UInt8
  value : List UInt8
  high : List UInt8
  bounded : Bool
  n : Int
def OpR (base : Nat) (w : World) (o : OpV) (cs : List Value) : Prop :=
  ∃ A c V vc B c2, cs = [.int .i64 o.kind, .slice A o.key.length c, .slice V o.value.length vc, .slice B o.high.length c2, .bool o.bounded, .int .i64 o.n] ∧
    Bytes base w A o.key.length o.key ∧ Bytes base w V o.value.length o.value ∧ Bytes base w B o.high.length o.high
abbrev Ops (base : Nat) := Recs base 113 (OpR base) 6
theorem Ops.new_ {base : Nat} {w w' : World} {A : Option Addr} {n : Nat} {l : List OpV} (h : Ops base w A n l) (hk : Keep No w w') : Ops base w' A n l :=
  Recs.keep h hk (fun _ x => x.elim) fun _ _ ⟨A, c, V, vc, B, c2, e, h1, h2, h3⟩ => ⟨A, c, V, vc, B, c2, e, h1.new_ hk, h2.new_ hk, h3.new_ hk⟩
theorem Ops.at_ {base : Nat} {w : World} {A : Option Addr} {n : Nat} {l : List OpV} (h : Ops base w A n l) {k : Nat} (hk : k < l.length) : ∃ ad A1 c1 A2 c2 A3 c3, A = some ad ∧
    w.cell? (ad.add (k * 6)) = some (.int .i64 l[k].kind) ∧ w.cell? ⟨(ad.add (k * 6)).block, (ad.add (k * 6)).off + 1, none⟩ = some (.slice A1 l[k].key.length c1) ∧
    w.cell? ⟨(ad.add (k * 6)).block, (ad.add (k * 6)).off + 2, none⟩ = some (.slice A2 l[k].value.length c2) ∧ w.cell? ⟨(ad.add (k * 6)).block, (ad.add (k * 6)).off + 3, none⟩ = some (.slice A3 l[k].high.length c3) ∧
    w.cell? ⟨(ad.add (k * 6)).block, (ad.add (k * 6)).off + 4, none⟩ = some (.bool l[k].bounded) ∧ w.cell? ⟨(ad.add (k * 6)).block, (ad.add (k * 6)).off + 5, none⟩ = some (.int .i64 l[k].n) ∧
    Bytes base w A1 l[k].key.length l[k].key ∧ Bytes base w A2 l[k].value.length l[k].value ∧ Bytes base w A3 l[k].high.length l[k].high := by
  obtain ⟨ad, cs, e, hb, ⟨A1, c1, A2, c2, A3, c3, rfl, h1, h2, h3⟩, _, hc⟩ := Recs.at_ (by omega) h hk
  exact ⟨ad, A1, c1, A2, c2, A3, c3, e, hc 0 _ rfl, by rw [add_field _ _ 1 (by omega)]; exact hc 1 _ rfl, by rw [add_field _ _ 2 (by omega)]; exact hc 2 _ rfl, by rw [add_field _ _ 3 (by omega)]; exact hc 3 _ rfl,
    by rw [add_field _ _ 4 (by omega)]; exact hc 4 _ rfl, by rw [add_field _ _ 5 (by omega)]; exact hc 5 _ rfl, h1, h2, h3⟩

end Go.Proofs.Ytdmckjojeddaaaa
namespace Go.Proofs.YtdmckjojeddaaaaOpen
open Go.RowKit Go.Proofs.YtdmckjojeddaaaaKit Go.ChangeShapes Go.WideShapes Go.ChangeAt Go.Deep Go.Proofs.Ytdmckjojeddaaaa
section
variable {H : Type} {enc : TypeId × Value → H} {w : World} {base : Nat} {spare : Nat → Bool} {held : Bool}
theorem cells_op : Try.prog.cellsOf 113 = 6 := by kernel_rfl
theorem list6 {cs : List Value} (h : cs.length = 6) : ∃ a b c d e f, cs = [a, b, c, d, e, f] := by
  match cs, h with
  | [a, b, c, d, e, f], _ => exact ⟨a, b, c, d, e, f, rfl⟩
theorem op_open {fuel : Nat} {cs : List Value} {x : DataW H × List MemPlace} (hl : cs.length = 6) (h : DataW.trod enc Try.prog w base spare held fuel 113 cs = some x) : ∃ s, OpR w.heap.size w s cs := by
  obtain ⟨v0, v1, v2, v3, v4, v5, rfl⟩ := list6 hl
  obtain ⟨_, n, hf⟩ := trod_fields Try.underlying113 (by kernel_rfl) h
  obtain ⟨_, y0, e0, h0⟩ := hf 0 _ rfl (by simp)
  obtain ⟨_, y1, e1, h1⟩ := hf 1 _ rfl (by simp)
  obtain ⟨_, y2, e2, h2⟩ := hf 2 _ rfl (by simp)
  obtain ⟨_, y3, e3, h3⟩ := hf 3 _ rfl (by simp)
  obtain ⟨_, y4, e4, h4⟩ := hf 4 _ rfl (by simp)
  obtain ⟨_, y5, e5, h5⟩ := hf 5 _ rfl (by simp)
  simp at e0 e1 e2 e3 e4 e5
  subst e0 e1 e2 e3 e4 e5
  obtain ⟨k, rfl, _, _⟩ := int_open h0
  obtain ⟨A, n1, c1, bs, rfl, hc1, _, hb1⟩ := bytes_open h1
  obtain ⟨V, n2, c2, vs, rfl, hc2, _, hb2⟩ := bytes_open h2
  obtain ⟨B, n3, c3, cs, rfl, hc3, _, hb3⟩ := bytes_open h3
  obtain ⟨b, rfl⟩ := bool_open h4
  obtain ⟨n, rfl, _, _⟩ := int_open h5
  obtain rfl := hb1.len
  obtain rfl := hb2.len
  obtain rfl := hb3.len
  exact ⟨⟨k, bs, vs, cs, b, n⟩, A, c1, V, c2, B, c3, rfl, hb1, hb2, hb3⟩
theorem ops_open {fuel : Nat} {v : Value} {x : DataW H × List MemPlace} (h : DataW.trod enc Try.prog w base spare held fuel 109 [v] = some x) : ∃ A n c l, v = .slice A n c ∧ n ≤ c ∧ c ≤ maxLen ∧ Ops w.heap.size w A n l :=
  trod_recs (R := OpR w.heap.size) Try.underlying109 rfl cells_op (by omega) (fun _ _ _ hl h => op_open hl h) h
end
end Go.Proofs.YtdmckjojeddaaaaOpen
namespace Go.Proofs.Ytdmckjojeddaaaa
open Go.RowKit Go.Proofs.YtdmckjojeddaaaaKit Go.Proofs.YtdmckjojeddaaaaPlain

/-- The state of the loop: two maps with their rows, in a block of the call's own. -/
def PlaySt (base : Nat) (w0 : World) (tt : Nat) (seed : Int) (k : Nat) (wr : World) : Prop :=
  ∃ a b x y F G xA xc yA yc, BSt base w0 wr a b seed x y F G xA xc yA yc ∧ Blk wr tt 111 #[.pointer (some ⟨a, 0, none⟩), .pointer (some ⟨b, 0, none⟩), .slice xA x.length xc, .slice yA y.length yc, .bool true] ∧
    tt ∉ F ∧ tt ∉ G ∧ w0.heap.size ≤ tt ∧ x.length + y.length ≤ k
theorem PlaySt.start {base : Nat} {w : World} {seed : Int} (hb : base ≤ w.heap.size) : PlaySt base w (w.heap.size + 1 + 1) seed 0 (((w.alloc (.cells #[.bool true, .int .u64 seed, .pointer none] 106)).alloc (.cells #[.bool true, .int .u64 seed, .pointer none] 106)).alloc (.cells #[.pointer (some ⟨w.heap.size, 0, none⟩), .pointer (some ⟨w.heap.size + 1, 0, none⟩), .slice none 0 0, .slice none 0 0, .bool true] 111)) := by
  have h := (Two.made (seed := seed) hb (Keep.refl No w)).new_ ((Keep.refl No _).alloc (.cells #[.pointer (some ⟨w.heap.size, 0, none⟩), .pointer (some ⟨w.heap.size + 1, 0, none⟩), .slice none 0 0, .slice none 0 0, .bool true] 111))
  have hB := Blk.new ((w.alloc (.cells #[.bool true, .int .u64 seed, .pointer none] 106)).alloc (.cells #[.bool true, .int .u64 seed, .pointer none] 106)) 111 #[.pointer (some ⟨w.heap.size, 0, none⟩), .pointer (some ⟨w.heap.size + 1, 0, none⟩), .slice none 0 0, .slice none 0 0, .bool true]
  have hz : ((w.alloc (.cells #[.bool true, .int .u64 seed, .pointer none] 106)).alloc (.cells #[.bool true, .int .u64 seed, .pointer none] 106)).heap.size = w.heap.size + 1 + 1 := by simp
  rw [hz] at hB
  exact ⟨_, _, [], [], _, _, none, 0, none, 0, ⟨h, ⟨[], Reads.none_, Flat.nil⟩, ⟨[], Reads.none_, Flat.nil⟩, Nat.le_refl _, Nat.le_refl _⟩, hB, by simp; omega, by simp, by omega, by simp⟩
theorem PlaySt.step {base : Nat} {w0 w2 : World} {tt : Nat} {seed : Int} {k : Nat} {a b : Nat} {x y : PairL} {F G : List Nat} {xA yA : Option Addr} {xc yc : Nat} {u0 u1 u2 u3 u4 : Value} (h : BSt base w0 w2 a b seed x y F G xA xc yA yc) (hB : Blk w2 tt 111 #[u0, u1, u2, u3, u4]) (hb : base ≤ w0.heap.size)
    (h1 : tt ∉ F ∧ tt ∉ G) (h2 : w0.heap.size ≤ tt) (hl : x.length + y.length ≤ k) :
    PlaySt base w0 tt seed k (((((w2.setCell ⟨tt, 0, none⟩ (.pointer (some ⟨a, 0, none⟩))).setCell ⟨tt, 1, none⟩ (.pointer (some ⟨b, 0, none⟩))).setCell ⟨tt, 2, none⟩ (.slice xA x.length xc)).setCell ⟨tt, 3, none⟩ (.slice yA y.length yc)).setCell ⟨tt, 4, none⟩ (.bool true)) :=
  ⟨a, b, x, y, F, G, xA, xc, yA, yc, h.cells hB hB (keep5 (Keep.refl (fun z => z = tt ∨ z = tt) w2) (g := tt) (.inl (.inl rfl)) _ _ _ _ _) hb h2 h2 h1 h1 (by decide) (by decide), blk5 hB _ _ _ _ _, h1.1, h1.2, h2, hl⟩

theorem long_is {b : Bool} (A : Option Addr) (n c : Nat) (w : World) (h : Hid (decide (2000 < n) = b)) : Calls Try.prog 15 #[.slice A n c] w fun e w' => e = .returned (.bool b) ∧ w = w' := h.out ▸ long_any A n c w

set_option maxHeartbeats 4000000 in
set_option maxRecDepth 100000 in
theorem orderPlays_walk {base : Nat} (seed : Int) (Lp : Option Addr) (m d : Nat) (l : List OpV) (w : World) (hl : Ops base w Lp m l) (hb : base ≤ w.heap.size) (hs : 0 ≤ seed ∧ seed < 18446744073709551616) :
    Calls Try.prog 14 #[.int .u64 seed, .slice Lp m d] w fun e w' => e = .returned (.bool true) ∧ Keep No w w' := by
  obtain rfl := hl.len (by omega)
  have HS := Lib.hid hs
  have HL := Lib.hid hl
  clear hs hl
  by_cases hm : 150 < l.length
  · go_enter Try.func14, Try.ntmps14
    go_wp2
    go_ret
    exact ⟨rfl, Keep.refl _ _⟩
  · have H0 := Lib.hid (PlaySt.start (seed := seed) hb)
    go_enter Try.func14, Try.ntmps14
    go_wp2_with (go_at_call 20; refine (new_any seed _).mono ?_; rintro e w' ⟨rfl, rfl⟩)
    generalize hW : (((w.alloc (.cells #[.bool true, .int .u64 seed, .pointer none] 106)).alloc (.cells #[.bool true, .int .u64 seed, .pointer none] 106)).alloc (.cells #[.pointer (some ⟨w.heap.size, 0, none⟩), .pointer (some ⟨w.heap.size + 1, 0, none⟩), .slice none 0 0, .slice none 0 0, .bool true] 111)) = w1 at *
    clear hW
    generalize ht : w.heap.size + 1 + 1 = tt at *
    clear ht
    go_loopw [6] (fun v6 wr => ∃ k : Nat, k ≤ l.length ∧ v6 = .int .i64 k ∧ Hid (PlaySt base w tt seed k wr)) (fun i _ => l.length - (intOf i).toNat)
    case atStart => exact ⟨0, Nat.zero_le _, rfl, H0⟩
    case round =>
      clear H0
      obtain ⟨k, hk, rfl, hP⟩ := hrel
      obtain ⟨a, b, x, y, F, G, xA, xc, yA, yc, hbs, hblk, hnF, hnG, htt, hxy⟩ := hP.out
      have HB := Lib.hid (show _ ∧ _ ∧ _ ∧ _ ∧ _ from ⟨hbs, hblk, hnF, hnG, htt⟩)
      have htl := hblk.lt
      clear hP
      by_cases hlt : k < l.length
      · obtain ⟨ad, A1, c1, A2, c2, A3, c3, rfl, e0, e1, e2, e3, e4, e5, b1, b2, b3⟩ := (HL.out.new_ HB.out.1.two.keep).at_ hlt
        have i0 : (0 : Int) ≤ (k : Int) := by omega
        have i1 : (k : Int) < (l.length : Int) := by omega
        have HO := Lib.hid (show _ ∧ _ ∧ _ from ⟨b1, b2, b3⟩)
        have f0 := hblk.cell 0
        clear b1 b2 b3 hbs hblk f0
        generalize l[k] = o at *
        go_wp2_with fail
        have k2 : Keep No wr (wr.alloc (.cells #[.int .i64 o.kind, .slice A1 o.key.length c1, .slice A2 o.value.length c2, .slice A3 o.high.length c3, .bool o.bounded, .int .i64 o.n] 113)) := (Keep.refl No wr).alloc _
        have B2 : Blk (wr.alloc (.cells #[.int .i64 o.kind, .slice A1 o.key.length c1, .slice A2 o.value.length c2, .slice A3 o.high.length c3, .bool o.bounded, .int .i64 o.n] 113)) wr.heap.size 113 #[.int .i64 o.kind, .slice A1 o.key.length c1, .slice A2 o.value.length c2, .slice A3 o.high.length c3, .bool o.bounded, .int .i64 o.n] := Blk.new _ _ _
        generalize wr.alloc (.cells #[.int .i64 o.kind, .slice A1 o.key.length c1, .slice A2 o.value.length c2, .slice A3 o.high.length c3, .bool o.bounded, .int .i64 o.n] 113) = w2 at *
        have T2 := HB.out.2.1.keep k2 (fun x => x)
        have p0 := B2.cell 0
        have p1 := B2.cell 1
        have p2 := B2.cell 2
        have p3 := B2.cell 3
        have p4 := B2.cell 4
        have p5 := B2.cell 5
        have f0 := T2.cell 0
        have f1 := T2.cell 1
        have f2 := T2.cell 2
        have f3 := T2.cell 3
        have f4 := T2.cell 4
        simp only [List.getElem?_toArray, List.getElem?_cons_zero, List.getElem?_cons_succ] at f0 f1 f2 f3 f4 p0 p1 p2 p3 p4 p5
        have H2 := Lib.hid (show _ ∧ _ ∧ _ from ⟨k2, B2, T2⟩)
        clear e0 e1 e2 e3 e4 e5 k2 B2 T2
        by_cases h1 : 2000 < o.key.length
        · have q1 := Lib.hid (decide_eq_true h1)
          have q2 : True := trivial
          have q3 : True := trivial
          go_wp2_with (first
            | (go_at_call_of 15 (Value.slice A1 o.key.length c1); refine (long_is _ _ _ _ q1).mono ?_; rintro e w' ⟨rfl, rfl⟩)
            | (go_at_call_of 15 (Value.slice A2 o.value.length c2); refine (long_is _ _ _ _ q2).mono ?_; rintro e w' ⟨rfl, rfl⟩)
            | (go_at_call_of 15 (Value.slice A3 o.high.length c3); refine (long_is _ _ _ _ q3).mono ?_; rintro e w' ⟨rfl, rfl⟩))
          go_ret
          exact ⟨rfl, HB.out.1.two.keep.trans H2.out.1 (fun _ x => x.elim)⟩
        by_cases h2 : 2000 < o.value.length
        · have q1 := Lib.hid (decide_eq_false h1)
          have q2 := Lib.hid (decide_eq_true h2)
          have q3 : True := trivial
          go_wp2_with (first
            | (go_at_call_of 15 (Value.slice A1 o.key.length c1); refine (long_is _ _ _ _ q1).mono ?_; rintro e w' ⟨rfl, rfl⟩)
            | (go_at_call_of 15 (Value.slice A2 o.value.length c2); refine (long_is _ _ _ _ q2).mono ?_; rintro e w' ⟨rfl, rfl⟩)
            | (go_at_call_of 15 (Value.slice A3 o.high.length c3); refine (long_is _ _ _ _ q3).mono ?_; rintro e w' ⟨rfl, rfl⟩))
          go_ret
          exact ⟨rfl, HB.out.1.two.keep.trans H2.out.1 (fun _ x => x.elim)⟩
        by_cases h3 : 2000 < o.high.length
        · have q1 := Lib.hid (decide_eq_false h1)
          have q2 := Lib.hid (decide_eq_false h2)
          have q3 := Lib.hid (decide_eq_true h3)
          go_wp2_with (first
            | (go_at_call_of 15 (Value.slice A1 o.key.length c1); refine (long_is _ _ _ _ q1).mono ?_; rintro e w' ⟨rfl, rfl⟩)
            | (go_at_call_of 15 (Value.slice A2 o.value.length c2); refine (long_is _ _ _ _ q2).mono ?_; rintro e w' ⟨rfl, rfl⟩)
            | (go_at_call_of 15 (Value.slice A3 o.high.length c3); refine (long_is _ _ _ _ q3).mono ?_; rintro e w' ⟨rfl, rfl⟩))
          go_ret
          exact ⟨rfl, HB.out.1.two.keep.trans H2.out.1 (fun _ x => x.elim)⟩
        have q1 := Lib.hid (decide_eq_false h1)
        have q2 := Lib.hid (decide_eq_false h2)
        have q3 := Lib.hid (decide_eq_false h3)
        have hm2 : l.length ≤ 150 := by omega
        have HD := Lib.hid (done_any (HB.out.1.new_ H2.out.1) (HO.out.1.new_ H2.out.1) (HO.out.2.1.new_ H2.out.1) (HO.out.2.2.new_ H2.out.1) (vc := c2) (c := c1) (c2 := c3) (bd := o.bounded) (N := o.n) hb (by omega) (by omega) (by omega) (by omega) HS.out o.kind)
        go_wp2_with (first
            | (go_at_call_of 15 (Value.slice A1 o.key.length c1); refine (long_is _ _ _ _ q1).mono ?_; rintro e w' ⟨rfl, rfl⟩)
            | (go_at_call_of 15 (Value.slice A2 o.value.length c2); refine (long_is _ _ _ _ q2).mono ?_; rintro e w' ⟨rfl, rfl⟩)
            | (go_at_call_of 15 (Value.slice A3 o.high.length c3); refine (long_is _ _ _ _ q3).mono ?_; rintro e w' ⟨rfl, rfl⟩))
        refine HD.out.mono ?_
        rintro e w3 ⟨a', b', x', y', F', G', xA', xc', yA', yc', rfl, hbs, hxy', hkp, hmem⟩
        have hnt : ¬ In (F ++ G) tt := fun h => (List.mem_append.1 h).elim hnF hnG
        have T3 := H2.out.2.2.keep hkp hnt
        have htl2 := H2.out.2.2.lt
        have hnew : tt ∉ F' ∧ tt ∉ G' := ⟨fun h => by rcases hmem tt (.inl h) with h | h | h; exact hnF h; exact hnG h; omega, fun h => by rcases hmem tt (.inr h) with h | h | h; exact hnF h; exact hnG h; omega⟩
        have HN := Lib.hid (PlaySt.step (k := k + 1) hbs T3 hb hnew htt (by omega))
        clear f0 f1 f2 f3 f4 p0 p1 p2 p3 p4 p5
        have f0 := T3.cell 0
        have f1 := T3.cell 1
        have f2 := T3.cell 2
        have f3 := T3.cell 3
        have f4 := T3.cell 4
        have z0 := T3.frozen 0
        have z1 := T3.frozen 1
        have z2 := T3.frozen 2
        have z3 := T3.frozen 3
        have z4 := T3.frozen 4
        simp only [List.getElem?_toArray, List.getElem?_cons_zero, List.getElem?_cons_succ] at f0 f1 f2 f3 f4
        clear hbs hkp hmem hnew T3 HD H2 HB HO q1 q2 q3 hxy' hxy hnt
        go_wp2
        go_roundw
        case rel => exact ⟨k + 1, by omega, by go_num, HN⟩
        case measure => simp [intOf]; omega
      · obtain rfl : k = l.length := by omega
        have hm2 : l.length ≤ 150 := by omega
        have hbr : base ≤ wr.heap.size := Nat.le_trans hb HB.out.1.two.keep.size
        have hoa := HB.out.1.two.ma.okay
        have hob := HB.out.1.two.mb.okay
        have f0 := hblk.cell 0
        have f1 := hblk.cell 1
        have f2 := hblk.cell 2
        have f3 := hblk.cell 3
        simp only [List.getElem?_toArray, List.getElem?_cons_zero, List.getElem?_cons_succ] at f0 f1 f2 f3
        have hcl : ∀ W, Keep No wr W → W.cell? ⟨tt, 0, none⟩ = some (.pointer (some ⟨a, 0, none⟩)) ∧ W.cell? ⟨tt, 1, none⟩ = some (.pointer (some ⟨b, 0, none⟩)) ∧ W.cell? ⟨tt, 2, none⟩ = some (.slice xA x.length xc) ∧ W.cell? ⟨tt, 3, none⟩ = some (.slice yA y.length yc) ∧ Keep No wr W := fun W k =>
          ⟨(hblk.keep k (fun x => x)).cell 0, (hblk.keep k (fun x => x)).cell 1, (hblk.keep k (fun x => x)).cell 2, (hblk.keep k (fun x => x)).cell 3, k⟩
        have HCL := Lib.hid hcl
        have HWA := Lib.hid (fun W (k : Keep No wr W) => whole_any (HB.out.1.two.ma.new_ k) (HB.out.1.px.new_ k) HB.out.1.cx (Nat.le_trans hbr k.size) (by omega))
        have HWB := Lib.hid (fun W (k : Keep No wr W) => whole_any (HB.out.1.two.mb.new_ k) (HB.out.1.py.new_ k) HB.out.1.cy (Nat.le_trans hbr k.size) (by omega))
        have HNA := Lib.hid (fun W (k : Keep No wr W) => nodes_any (HB.out.1.two.ma.new_ k) (Nat.le_trans hbr k.size) (by omega))
        have HRN := Lib.hid (fun W (k : Keep No wr W) => rnodes_any (seed := seed) (HB.out.1.px.new_ k) HB.out.1.cx hoa (by omega) (Nat.le_trans hbr k.size))
        have hnl := nodesL_length seed x
        have hno := nodesL_okay (seed := seed) hoa
        have HSN := Lib.hid (fun W (L1 L2 : Option Addr) (d1 d2 : Nat) (h1 : NodesAt base W L1 (nodesL seed x).length (nodesL seed x)) (h2 : NodesAt base W L2 (nodesL seed x).length (nodesL seed x)) => samenodes_any L1 L2 _ d1 _ d2 _ W h1 h2 hno (by rw [hnl]; omega))
        clear hcl hblk hoa hob hnl hno
        generalize nodesL seed x = N at *
        go_wp2_with fail
        have K0 := Lib.hid HB.out.1.two.keep
        go_region_held3 (fun W => W.cell? ⟨tt, 0, none⟩ = some (.pointer (some ⟨a, 0, none⟩)) ∧ W.cell? ⟨tt, 1, none⟩ = some (.pointer (some ⟨b, 0, none⟩)) ∧ W.cell? ⟨tt, 2, none⟩ = some (.slice xA x.length xc) ∧ W.cell? ⟨tt, 3, none⟩ = some (.slice yA y.length yc) ∧ Keep No wr W)
          (first
            | exact HCL.out _ (Keep.refl No wr).drew
            | (go_split_ands; exact HCL.out _ (Keep.trans (by assumption) hkd (fun _ x => x.elim)))
            | go_keep)
          (first
            | (go_at_call_of 36 (Value.pointer (some ⟨a, 0, none⟩)); go_split_ands; refine (HWA.out _ (by assumption)).mono ?_; rintro e w' ⟨rfl, hkd⟩)
            | (go_at_call_of 36 (Value.pointer (some ⟨b, 0, none⟩)); go_split_ands; refine (HWB.out _ (by assumption)).mono ?_; rintro e w' ⟨rfl, hkd⟩)
            | (go_at_call 22; go_split_ands; refine (HNA.out _ (by assumption)).mono ?_; rintro e w7 ⟨A7, c7, rfl, hc7, ho7, hkd⟩; have S7 := Lib.hid (show NodesAt base w7 A7 N.length N from OwnR.recs ho7 rfl); clear ho7)
            | (go_at_call 33; go_split_ands; refine (HRN.out _ (by assumption)).mono ?_; rintro e w8 ⟨A8, c8, rfl, hc8, ho8, hkd⟩; have S8 := Lib.hid (show NodesAt base w8 A8 N.length N from OwnR.recs ho8 rfl); have KR := Lib.hid hkd; clear ho8)
            | (go_at_call 53; refine (HSN.out _ _ _ _ _ (NodesAt.new_ S7.out KR.out) S8.out).mono ?_; rintro e w9 ⟨rfl, hkd⟩))
        all_goals
          go_split_ands
          go_wp2
          go_ret
          exact ⟨rfl, K0.out.trans (S' := No) (by assumption) (fun _ x => False.elim x)⟩
end Go.Proofs.Ytdmckjojeddaaaa
