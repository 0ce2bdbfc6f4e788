/- LearnOrders: questions opened, what it holds, its walk. Conditions: each names its own. -/
import Derived.Test.YtgabidgpngiecaaGreatLO0
import Derived.Test.YtgabidgpngiecaaGreatLM0
import Derived.Test.YtgabidgpngiecaaGreatLK3
import Derived.Test.YtgabidgpngiecaaGreatLC0
import Derived.Test.YtgabidgpngiecaaGreatLB1
namespace Go.Proofs.YtgabidgpngiecaaGreat
open Go.RowKit Go.Proofs.YtgabidgpngiecaaGreatKit Go.Proofs.YtgabidgpngiecaaGreatPlain

/-- A question. -/
structure Que where
  x : Row
  k : Int
  by_ : Int
  of_ : Int
  deep : Int
  least : Int
def Que.cells (q : Que) : List Value := [.int .i64 q.x.a, .int .i64 q.x.b, .int .i64 q.x.c, .int .i64 q.k, .int .i64 q.by_, .int .i64 q.of_, .int .i64 q.deep, .int .i64 q.least]
def acells (l : List Que) : List Value := (l.map Que.cells).flatten
def AsksIn (base : Nat) (w : World) (A : Option Addr) (l : List Que) : Prop := Reads base w 39 8 A l.length (acells l)
theorem cells_ask : Tryz.prog.cellsOf 39 = 8 := by kernel_rfl
end Go.Proofs.YtgabidgpngiecaaGreat
namespace Go.Proofs.YtgabidgpngiecaaGreatOpen
open Go.RowKit Go.Proofs.YtgabidgpngiecaaGreatKit Go.Proofs.YtgabidgpngiecaaGreatPlain Go.Proofs.YtgabidgpngiecaaGreat Go.ChangeShapes Go.WideShapes Go.ChangeAt Go.Deep

section
variable {H : Type} {enc : TypeId × Value → H} {w : World} {base : Nat} {spare : Nat → Bool} {held : Bool}
theorem list8 {cs : List Value} (h : cs.length = 8) : ∃ a b c d e f g i, cs = [a, b, c, d, e, f, g, i] := by
  match cs, h with
  | [a, b, c, d, e, f, g, i], _ => exact ⟨a, b, c, d, e, f, g, i, rfl⟩
theorem int_wf {fuel : Nat} {v : Value} {x : DataW H × List MemPlace} (h : DataW.trod enc Tryz.prog w base spare held fuel 3 [v] = some x) : ∃ n : Int, v = .int .i64 n ∧ n < 9223372036854775808 := by
  obtain ⟨n, e, _, hw⟩ := DataW.trod_int Tryz.underlying3 h
  simp at e
  refine ⟨n, e, ?_⟩
  simp [Lit.wf, IntKind.min, IntKind.max, IntKind.signed, IntKind.bits] at hw
  omega
set_option maxRecDepth 100000 in
theorem ask_open {fuel : Nat} {cs : List Value} {x : DataW H × List MemPlace} (hl : cs.length = 8) (h : DataW.trod enc Tryz.prog w base spare held fuel 39 cs = some x) : ∃ q : Que, cs = q.cells ∧ q.k < 9223372036854775808 := by
  obtain ⟨v0, v1, v2, v3, v4, v5, v6, v7, rfl⟩ := list8 hl
  obtain ⟨xs, n, _, _, _, hx, hf⟩ := DataW.trod_struct Tryz.underlying39 h
  have g0 : DataW.trod enc Tryz.prog w base spare held n 28 ((([v0, v1, v2, v3, v4, v5, v6, v7] : List Value).drop 0).take (Tryz.prog.cellsOf 28)) = xs[0]? := hf 0 _ rfl
  have g1 : DataW.trod enc Tryz.prog w base spare held n 3 ((([v0, v1, v2, v3, v4, v5, v6, v7] : List Value).drop 3).take (Tryz.prog.cellsOf 3)) = xs[1]? := hf 1 _ rfl
  have g2 : DataW.trod enc Tryz.prog w base spare held n 3 ((([v0, v1, v2, v3, v4, v5, v6, v7] : List Value).drop 4).take (Tryz.prog.cellsOf 3)) = xs[2]? := hf 2 _ rfl
  have g3 : DataW.trod enc Tryz.prog w base spare held n 3 ((([v0, v1, v2, v3, v4, v5, v6, v7] : List Value).drop 5).take (Tryz.prog.cellsOf 3)) = xs[3]? := hf 3 _ rfl
  have g4 : DataW.trod enc Tryz.prog w base spare held n 3 ((([v0, v1, v2, v3, v4, v5, v6, v7] : List Value).drop 6).take (Tryz.prog.cellsOf 3)) = xs[4]? := hf 4 _ rfl
  have g5 : DataW.trod enc Tryz.prog w base spare held n 3 ((([v0, v1, v2, v3, v4, v5, v6, v7] : List Value).drop 7).take (Tryz.prog.cellsOf 3)) = xs[5]? := hf 5 _ rfl
  obtain ⟨y0, e0⟩ := some_of (l := xs) (i := 0) (by rw [hx]; decide)
  obtain ⟨y1, e1⟩ := some_of (l := xs) (i := 1) (by rw [hx]; decide)
  obtain ⟨y2, e2⟩ := some_of (l := xs) (i := 2) (by rw [hx]; decide)
  obtain ⟨y3, e3⟩ := some_of (l := xs) (i := 3) (by rw [hx]; decide)
  obtain ⟨y4, e4⟩ := some_of (l := xs) (i := 4) (by rw [hx]; decide)
  obtain ⟨y5, e5⟩ := some_of (l := xs) (i := 5) (by rw [hx]; decide)
  rw [e0] at g0
  rw [e1] at g1
  rw [e2] at g2
  rw [e3] at g3
  rw [e4] at g4
  rw [e5] at g5
  rw [cells_three, show (([v0, v1, v2, v3, v4, v5, v6, v7] : List Value).drop 0).take 3 = [v0, v1, v2] from rfl] at g0
  rw [cells_int] at g1 g2 g3 g4 g5
  obtain ⟨zs, m, _, _, _, hz, ha⟩ := DataW.trod_array Tryz.underlying28 g0
  have a0 : DataW.trod enc Tryz.prog w base spare held m 3 ((([v0, v1, v2] : List Value).drop (0 * Tryz.prog.cellsOf 3)).take (Tryz.prog.cellsOf 3)) = zs[0]? := ha 0 (by omega)
  simp only [cells_int] at a0
  have a1 : DataW.trod enc Tryz.prog w base spare held m 3 ((([v0, v1, v2] : List Value).drop (1 * Tryz.prog.cellsOf 3)).take (Tryz.prog.cellsOf 3)) = zs[1]? := ha 1 (by omega)
  simp only [cells_int] at a1
  have a2 : DataW.trod enc Tryz.prog w base spare held m 3 ((([v0, v1, v2] : List Value).drop (2 * Tryz.prog.cellsOf 3)).take (Tryz.prog.cellsOf 3)) = zs[2]? := ha 2 (by omega)
  simp only [cells_int] at a2
  obtain ⟨u0, f0⟩ := some_of (l := zs) (i := 0) (by omega)
  obtain ⟨u1, f1⟩ := some_of (l := zs) (i := 1) (by omega)
  obtain ⟨u2, f2⟩ := some_of (l := zs) (i := 2) (by omega)
  rw [f0] at a0
  rw [f1] at a1
  rw [f2] at a2
  have a0 : DataW.trod enc Tryz.prog w base spare held m 3 [v0] = some u0 := a0
  have a1 : DataW.trod enc Tryz.prog w base spare held m 3 [v1] = some u1 := a1
  have a2 : DataW.trod enc Tryz.prog w base spare held m 3 [v2] = some u2 := a2
  have g1 : DataW.trod enc Tryz.prog w base spare held n 3 [v3] = some y1 := g1
  have g2 : DataW.trod enc Tryz.prog w base spare held n 3 [v4] = some y2 := g2
  have g3 : DataW.trod enc Tryz.prog w base spare held n 3 [v5] = some y3 := g3
  have g4 : DataW.trod enc Tryz.prog w base spare held n 3 [v6] = some y4 := g4
  have g5 : DataW.trod enc Tryz.prog w base spare held n 3 [v7] = some y5 := g5
  obtain ⟨n0, rfl⟩ := int_one a0
  obtain ⟨n1, rfl⟩ := int_one a1
  obtain ⟨n2, rfl⟩ := int_one a2
  obtain ⟨n3, rfl, hk⟩ := int_wf g1
  obtain ⟨n4, rfl⟩ := int_one g2
  obtain ⟨n5, rfl⟩ := int_one g3
  obtain ⟨n6, rfl⟩ := int_one g4
  obtain ⟨n7, rfl⟩ := int_one g5
  exact ⟨⟨⟨n0, n1, n2, 0⟩, n3, n4, n5, n6, n7⟩, rfl, hk⟩
theorem flat_asks {l : List Que} : ∀ {xs : List Value}, Flat (fun (q : Que) cs => cs = q.cells ∧ q.k < 9223372036854775808) 8 l xs → xs = acells l ∧ ∀ q ∈ l, q.k < 9223372036854775808 := by
  induction l with
  | nil => intro xs h; exact ⟨h, fun q hq => by cases hq⟩
  | cons r l ih =>
    rintro xs ⟨cs, ys, rfl, _, hr, ht⟩
    obtain ⟨e, he⟩ := ih ht
    obtain ⟨hr', hk⟩ : cs = r.cells ∧ r.k < 9223372036854775808 := hr
    refine ⟨?_, fun q hq => ?_⟩
    · rw [e, hr']
      unfold acells
      rw [List.map_cons, List.flatten_cons]
    · rcases List.mem_cons.1 hq with rfl | hq
      · exact hk
      · exact he q hq
theorem asks_open {fuel : Nat} {v : Value} {x : DataW H × List MemPlace} (h : DataW.trod enc Tryz.prog w base spare held fuel 23 [v] = some x) : ∃ A c l, v = .slice A l.length c ∧ l.length ≤ maxLen ∧ Go.Proofs.YtgabidgpngiecaaGreat.AsksIn w.heap.size w A l ∧ ∀ q ∈ l, q.k < 9223372036854775808 := by
  obtain ⟨A, n, c, l, rfl, hc, hm, hr⟩ := trod_recs (R := fun _ (q : Que) cs => cs = q.cells ∧ q.k < 9223372036854775808) Tryz.underlying23 rfl cells_ask (by omega) (fun _ _ _ hl h => ask_open hl h) h
  have hn := Recs.len (by omega) hr
  obtain ⟨xs, h1, h2⟩ := hr
  obtain ⟨rfl, hk⟩ := flat_asks h2
  subst hn
  exact ⟨A, c, l, rfl, Nat.le_trans hc hm, h1, hk⟩
end
end Go.Proofs.YtgabidgpngiecaaGreatOpen

namespace Go.Proofs.YtgabidgpngiecaaGreatKit
open Go.RowKit

section
variable {P : Program} (w : World)
/-- What is appended to a slice whose capacity is its length lies in a new block, or nothing is appended. -/
theorem run_append_cut (t ty e : TypeId) (i : TypeInfo) (z : Value) (size bytes : Nat) (ht : P.underlying t = some (.slice e)) (hi : P.info? e = some i) (hz : i.zero = some z)
    (hsize : i.size = size) (hby : i.bytes = bytes) (hzs : z.cells.size = size) (hmu : mutTy e = false)
    (base B : Nat) (A D : Option Addr) (k m c : Nat) (olds news : List Value) (hA : Reads base w e size A k olds) (hD : Reads B w e size D m news)
    (hbytes : (k + m) * bytes ≤ 140737488355328) (h63 : k + m ≤ maxLen) :
    ∃ A' c' w', (Builtin.append_ #[t, t] ty #[.slice A k k, .slice D m c]).run P w = .ok (.slice A' (k + m) c') w' ∧ k + m ≤ c' ∧ Reads base w' e size A' (k + m) (olds ++ news) ∧ Keep No w w' ∧ (A' = A ∨ A' = some ⟨w.heap.size, 0, none⟩) := by
  subst hsize
  subst hby
  have hsmall : k + m ≤ 9223372036854775807 := by simp only [maxLen] at h63; omega
  have hlen : (olds ++ news).length = (k + m) * i.size := by rw [List.length_append, hA.1, hD.1, Nat.add_mul]
  have grown : ∀ (old : Nat), old < k + m →
      Reads base (w.drew.alloc (.cells (olds.toArray ++ news.toArray ++ Builtin.zeroCells z.cells (grownCap w (k + m) old e - (k + m))) e)) e i.size (some ⟨w.heap.size, 0, none⟩) (k + m) (olds ++ news) ∧
      Keep No w (w.drew.alloc (.cells (olds.toArray ++ news.toArray ++ Builtin.zeroCells z.cells (grownCap w (k + m) old e - (k + m))) e)) := by
    intro old _
    have hB := Blk.new w.drew e (olds.toArray ++ news.toArray ++ Builtin.zeroCells z.cells (grownCap w (k + m) old e - (k + m)))
    refine ⟨⟨hlen, fun _ => ⟨_, rfl, Blk.imm hB hmu, fun j u hu => ?_⟩⟩, ((Keep.refl No w).drew).alloc _⟩
    have h1 := hB.cell j
    rw [Addr.add_lit, Nat.zero_add]
    refine h1.trans ?_
    rw [← Array.getElem?_toList, Array.toList_append, Array.toList_append, List.getElem?_append_left]
    · exact hu
    · exact (List.getElem?_eq_some_iff.1 hu).1
  by_cases hm : m = 0
  · subst hm
    have hn : news = [] := List.eq_nil_of_length_eq_zero (by simpa using hD.1)
    subst hn
    refine ⟨A, k, w, ?_, Nat.le_refl _, by rw [List.append_nil]; exact hA, Keep.refl _ _, .inl rfl⟩
    cases A <;> cases D <;> simp [Builtin.append_, run_underlying ht, sizeOf, typeInfo, hi, Builtin.lenOf, Builtin.firstCells, loadCells, loadCellsFrom, storeCells]
  · obtain ⟨a, rfl, _, hnews⟩ := hD.2 (by omega)
    cases A with
    | none =>
      have hk : k = 0 := by
        refine Decidable.byContradiction fun h => ?_
        obtain ⟨ad, e, _⟩ := hA.2 (by omega)
        cases e
      subst hk
      have ho : olds = [] := List.eq_nil_of_length_eq_zero (by simpa using hA.1)
      subst ho
      have hr := run_append_nil (P := P) w t ty e i z ht hi hz a m c news hD.1 hnews (by omega) (by omega) (by have hb := hbytes; simp only [Nat.zero_add] at hb; omega)
      have hgr := grown 0 (by omega)
      simp only [Nat.zero_add, List.nil_append, Array.empty_append] at hgr ⊢
      exact ⟨_, _, _, hr, grownCap_ge w m 0 e, hgr.1, hgr.2, .inr rfl⟩
    | some b =>
      have holds : ∀ j u, olds[j]? = some u → w.cell? (b.add j) = some u := fun j u hu => by
        have hj := (List.getElem?_eq_some_iff.1 hu).1
        rw [hA.1] at hj
        obtain ⟨ad, e, _, h⟩ := hA.2 (by
          refine Nat.pos_of_ne_zero fun h0 => ?_
          rw [h0, Nat.zero_mul] at hj
          omega)
        injection e with e
        subst e
        exact h j u hu
      have hr := run_append_grow (P := P) w t ty e i z ht hi hz b k k olds hA.1 holds a m c news hD.1 hnews (by omega) (by omega) (growslice_fits (by omega) hbytes)
      have hgr := grown k (by omega)
      exact ⟨_, _, _, hr, grownCap_ge w (k + m) k e, hgr.1, hgr.2, .inr rfl⟩
theorem step_append_cut {ops : Array Oper} {o : Oper} {a : Act} {K : Act → World → Prop} {Q : Exit → Act → World → Prop} {E : Prop} (hgd : o.guard = none) (s x : Operand) (t : TypeId)
    (ho : o.op = .call { callee := .builtin .append, args := #[s, x], argTypes := #[t, t] })
    (e : TypeId) (i : TypeInfo) (z : Value) (size bytes : Nat) (ht : P.underlying t = some (.slice e)) (hi : P.info? e = some i) (hz : i.zero = some z)
    (hsize : i.size = size) (hby : i.bytes = bytes) (hzs : z.cells.size = size) (hmu : mutTy e = false)
    (base B : Nat) (A D : Option Addr) (k m c : Nat) (olds news : List Value) (hs : a.eval s = .slice A k k) (hx : a.eval x = .slice D m c) (hA : Reads base w e size A k olds) (hD : Reads B w e size D m news)
    (hbytes : (k + m) * bytes ≤ 140737488355328) (h63 : k + m ≤ maxLen)
    (h : ∀ A' c' w', k + m ≤ c' → Reads base w' e size A' (k + m) (olds ++ news) → Keep No w w' → (A' = A ∨ A' = some ⟨w.heap.size, 0, none⟩) → K (a.put o.dst (.slice A' (k + m) c')) w') :
    if Region.wanted o (yielded ops a.tmps) = true then Oper.wp P o a w K Q else E := by
  have hw : Region.wanted o (yielded ops a.tmps) = true := by simp [Region.wanted, hgd]
  rw [if_pos hw]
  obtain ⟨A', c', w', hrun, h2, h3, h4, h5⟩ := run_append_cut (P := P) w t o.type e i z size bytes ht hi hz hsize hby hzs hmu base B A D k m c olds news hA hD hbytes h63
  unfold Oper.wp execOp
  simp only [ho, resolve, invoke, builtin, Sem.run_bind, Sem.run_pure, Result.andThen_ok, List.map_toArray, List.map_cons, List.map_nil, hs, hx, hrun]
  exact h A' c' w' h2 h3 h4 h5
theorem Reads.apart {S : Nat → Prop} {base : Nat} {w w' : World} {e size n : Nat} {A : Option Addr} {xs : List Value} (h : Reads base w e size A n xs) (hk : Keep S w w') (hs : ∀ ad, A = some ad → ¬ S ad.block) : Reads base w' e size A n xs := by
  refine ⟨h.1, fun hn => ?_⟩
  obtain ⟨ad, rfl, hi, hc⟩ := h.2 hn
  have hns := hs ad rfl
  have hb : w'.heap[ad.block]? = w.heap[ad.block]? := hk.block _ hi.lt hns
  refine ⟨ad, rfl, hi.same hb hk.size, fun j u hu => ?_⟩
  have h1 := hk.cell (p := ad.add j) (by rw [block_of_add]; exact hi.lt) (by rw [block_of_add]; exact hns)
  exact h1.trans (hc j u hu)
end
end Go.Proofs.YtgabidgpngiecaaGreatKit

namespace Go.Proofs.YtgabidgpngiecaaGreat
open Go.RowKit Go.Proofs.YtgabidgpngiecaaGreatKit Go.Proofs.YtgabidgpngiecaaGreatPlain

theorem row_hm {A : Option Addr} {n c f : Nat} (hf : f ≤ c) (W : World) : (Instr.sliceAt 27 (.slice A n c) none (some (.int .i64 (f : Int))) (some (.int .i64 (f : Int)))).run Tryz.prog W = .ok (.slice A f f) W := by
  have e2 : Tryz.prog.elem 27 = 30 := by kernel_rfl
  rw [run_sliceAt_slice (t := 27) (h := by kernel_rfl), run_slice_hm (P := Tryz.prog) (w := W) 27 A n c (by kernel_rfl) .i64 .i64 (f : Int) (f : Int) (by omega) (by omega) (by omega), e2, Tryz.sizeOf30]
  cases A <;> simp [Result.andThen, sliced, Addr.add]
/-- The models, and the rows that are left. -/
structure OrS (w W : World) (mb b nm nb : Nat) (R done left : List Row) (B : Option Addr) : Prop where
  m : Mdl w.heap.size W mb b R
  n : Mdl w.heap.size W nm nb done
  le : RowsIn w.heap.size W B left
  pm : (done ++ left).Perm R
  kp : Keep No w W
  ne : mb ≠ nm ∧ mb ≠ nb ∧ b ≠ nm ∧ b ≠ nb
  ge : w.heap.size ≤ nm ∧ w.heap.size ≤ nb
  bl : ∀ ad, B = some ad → ad.block ≠ nm ∧ ad.block ≠ nb
/-- Two models of the same rows. -/
structure EqM (w W : World) (mb b nm nb : Nat) (R done : List Row) : Prop where
  m : Mdl w.heap.size W mb b R
  n : Mdl w.heap.size W nm nb done
  pm : done.Perm R
  kp : Keep No w W
theorem EqM.new_ {w W W' : World} {mb b nm nb : Nat} {R done : List Row} (h : EqM w W mb b nm nb R done) (hk : Keep No W W') : EqM w W' mb b nm nb R done := ⟨h.m.new_ hk, h.n.new_ hk, h.pm, h.kp.trans hk (fun _ x => x.elim)⟩
theorem acells_get : ∀ (l : List Que) (k : Nat) (hk : k < l.length) (j : Nat) (u : Value), l[k].cells[j]? = some u → (acells l)[k * 8 + j]? = some u
  | [], k, hk, _, _, _ => absurd hk (by simp)
  | q :: l, 0, _, j, u, hu => by
    unfold acells
    rw [List.map_cons, List.flatten_cons, Nat.zero_mul, Nat.zero_add, List.getElem?_append_left]
    · exact hu
    · exact (List.getElem?_eq_some_iff.1 hu).1
  | q :: l, k + 1, hk, j, u, hu => by
    have ih := acells_get l k (by simpa using hk) j u (by simpa using hu)
    unfold acells at ih ⊢
    rw [List.map_cons, List.flatten_cons, List.getElem?_append_right (by rw [show q.cells.length = 8 from rfl]; omega), show q.cells.length = 8 from rfl, show (k + 1) * 8 + j - 8 = k * 8 + j from by omega]
    exact ih
theorem AsksIn.at_ {base : Nat} {w : World} {A : Option Addr} {l : List Que} (h : AsksIn base w A l) {k : Nat} (hk : k < l.length) : ∃ ad, A = some ad ∧ ∀ j u, j < 8 → l[k].cells[j]? = some u → w.cell? (ad.add (k * 8 + j)) = some u := by
  obtain ⟨ad, hA, _, hc⟩ := h.2 (by omega)
  exact ⟨ad, hA, fun j u _ hu => hc _ u (acells_get l k hk j u hu)⟩
theorem AsksIn.cells {base : Nat} {w : World} {A : Option Addr} {l : List Que} (h : AsksIn base w A l) {k : Nat} (hk : k < l.length) : ∃ ad, A = some ad ∧ w.cell? (ad.add (k * 8)) = some (.int .i64 l[k].x.a) ∧ w.cell? ⟨(ad.add (k * 8)).block, (ad.add (k * 8)).off + 1, none⟩ = some (.int .i64 l[k].x.b) ∧ w.cell? ⟨(ad.add (k * 8)).block, (ad.add (k * 8)).off + 2, none⟩ = some (.int .i64 l[k].x.c) ∧
    w.cell? ⟨(ad.add (k * 8)).block, (ad.add (k * 8)).off + 3, none⟩ = some (.int .i64 l[k].k) ∧ w.cell? ⟨(ad.add (k * 8)).block, (ad.add (k * 8)).off + 4, none⟩ = some (.int .i64 l[k].by_) ∧ w.cell? ⟨(ad.add (k * 8)).block, (ad.add (k * 8)).off + 5, none⟩ = some (.int .i64 l[k].of_) ∧
    w.cell? ⟨(ad.add (k * 8)).block, (ad.add (k * 8)).off + 6, none⟩ = some (.int .i64 l[k].deep) ∧ w.cell? ⟨(ad.add (k * 8)).block, (ad.add (k * 8)).off + 7, none⟩ = some (.int .i64 l[k].least) := by
  obtain ⟨ad, hA, hc⟩ := h.at_ hk
  refine ⟨ad, hA, hc 0 _ (by omega) rfl, ?_, ?_, ?_, ?_, ?_, ?_, ?_⟩
  · rw [add_field ad (k * 8) 1 (by omega)]; exact hc 1 _ (by omega) rfl
  · rw [add_field ad (k * 8) 2 (by omega)]; exact hc 2 _ (by omega) rfl
  · rw [add_field ad (k * 8) 3 (by omega)]; exact hc 3 _ (by omega) rfl
  · rw [add_field ad (k * 8) 4 (by omega)]; exact hc 4 _ (by omega) rfl
  · rw [add_field ad (k * 8) 5 (by omega)]; exact hc 5 _ (by omega) rfl
  · rw [add_field ad (k * 8) 6 (by omega)]; exact hc 6 _ (by omega) rfl
  · rw [add_field ad (k * 8) 7 (by omega)]; exact hc 7 _ (by omega) rfl
section
variable {w W W' : World} {mb b nm nb : Nat} {R done left : List Row} {B B' : Option Addr}
theorem OrS.new_ (h : OrS w W mb b nm nb R done left B) (hk : Keep No W W') : OrS w W' mb b nm nb R done left B := ⟨h.m.new_ hk, h.n.new_ hk, Reads.new_ h.le hk, h.pm, h.kp.trans hk (fun _ x => x.elim), h.ne, h.ge, h.bl⟩
/-- The other model learns one of them. -/
theorem OrS.learn (h : OrS w W mb b nm nb R done left B) {k : Nat} (hk : k < left.length) (hn : Mdl w.heap.size W' nm nb (left[k] :: done)) (hkp : Keep (fun x => x = nm ∨ x = nb) W W') : Mdl w.heap.size W' mb b R ∧ RowsIn w.heap.size W' B left ∧ Keep No w W' ∧ ((left[k] :: done) ++ (left.take k ++ left.drop (k + 1))).Perm R := by
  refine ⟨h.m.keep hkp (fun e => e.elim h.ne.1 h.ne.2.1) (fun e => e.elim h.ne.2.2.1 h.ne.2.2.2), Reads.apart h.le hkp (fun ad e e2 => e2.elim (h.bl ad e).1 (h.bl ad e).2), h.kp.trans hkp (fun x e => .inr (by rcases e with e | e <;> (subst e; first | exact h.ge.1 | exact h.ge.2))), ?_⟩
  have e1 : left = left.take k ++ left[k] :: left.drop (k + 1) := by rw [List.getElem_cons_drop, List.take_append_drop]
  have h2 := h.pm
  rw [e1] at h2
  refine List.Perm.trans ?_ h2
  have e3 : (left.take k ++ left[k] :: left.drop (k + 1)).Perm (left[k] :: (left.take k ++ left.drop (k + 1))) := List.perm_middle
  rw [List.cons_append]
  refine (List.perm_middle (a := left[k])).symm.trans ?_
  exact (List.Perm.append_left done e3.symm)
theorem OrS.cut (h : OrS w W mb b nm nb R done left B) (hr : RowsIn w.heap.size W' B' left) (hk : Keep No W W') (hat : B' = B ∨ B' = some ⟨W.heap.size, 0, none⟩) : OrS w W' mb b nm nb R done left B' := by
  have h1 := h.n.lt
  exact ⟨h.m.new_ hk, h.n.new_ hk, hr, h.pm, h.kp.trans hk (fun _ x => x.elim), h.ne, h.ge, fun ad e => by
    rcases hat with e2 | e2
    · exact h.bl ad (e2 ▸ e)
    · rw [e2] at e
      injection e with e
      subst e
      exact ⟨by show W.heap.size ≠ nm; omega, by show W.heap.size ≠ nb; omega⟩⟩
end
end Go.Proofs.YtgabidgpngiecaaGreat

