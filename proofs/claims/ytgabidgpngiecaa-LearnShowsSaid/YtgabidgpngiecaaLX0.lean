/- LearnOrders: questions opened, what it holds, its walk. Conditions: each names its own. -/
import Derived.Test.YtgabidgpngiecaaLO0
import Derived.Test.YtgabidgpngiecaaLM0
import Derived.Test.YtgabidgpngiecaaLK3
import Derived.Test.YtgabidgpngiecaaLC0
import Derived.Test.YtgabidgpngiecaaLB1
namespace Go.Proofs.Ytgabidgpngiecaa
open Go.RowKit Go.Proofs.YtgabidgpngiecaaKit Go.Proofs.YtgabidgpngiecaaPlain

/-- A question. -/
structure Que where
  x : Row
  k : Int
  by_ : Int
  of_ : Int
  deep : Int
  least : Int
def Que.cells (q : Que) : List Value := [.int .i64 q.x.a, .int .i64 q.x.b, .int .i64 q.x.c, .int .i64 q.k, .int .i64 q.by_, .int .i64 q.of_, .int .i64 q.deep, .int .i64 q.least]
def acells (l : List Que) : List Value := (l.map Que.cells).flatten
def AsksIn (base : Nat) (w : World) (A : Option Addr) (l : List Que) : Prop := Reads base w 64 8 A l.length (acells l)
theorem cells_ask : Try.prog.cellsOf 64 = 8 := by kernel_rfl
end Go.Proofs.Ytgabidgpngiecaa
namespace Go.Proofs.YtgabidgpngiecaaOpen
open Go.RowKit Go.Proofs.YtgabidgpngiecaaKit Go.Proofs.YtgabidgpngiecaaPlain Go.Proofs.Ytgabidgpngiecaa Go.ChangeShapes Go.WideShapes Go.ChangeAt Go.Deep

section
variable {H : Type} {enc : TypeId × Value → H} {w : World} {base : Nat} {spare : Nat → Bool} {held : Bool}
theorem list8 {cs : List Value} (h : cs.length = 8) : ∃ a b c d e f g i, cs = [a, b, c, d, e, f, g, i] := by
  match cs, h with
  | [a, b, c, d, e, f, g, i], _ => exact ⟨a, b, c, d, e, f, g, i, rfl⟩
theorem int_wf {fuel : Nat} {v : Value} {x : DataW H × List MemPlace} (h : DataW.trod enc Try.prog w base spare held fuel 3 [v] = some x) : ∃ n : Int, v = .int .i64 n ∧ n < 9223372036854775808 := by
  obtain ⟨n, e, _, hw⟩ := DataW.trod_int Try.underlying3 h
  simp at e
  refine ⟨n, e, ?_⟩
  simp [Lit.wf, IntKind.min, IntKind.max, IntKind.signed, IntKind.bits] at hw
  omega
set_option maxRecDepth 100000 in
theorem ask_open {fuel : Nat} {cs : List Value} {x : DataW H × List MemPlace} (hl : cs.length = 8) (h : DataW.trod enc Try.prog w base spare held fuel 64 cs = some x) : ∃ q : Que, cs = q.cells ∧ q.k < 9223372036854775808 := by
  obtain ⟨v0, v1, v2, v3, v4, v5, v6, v7, rfl⟩ := list8 hl
  obtain ⟨xs, n, _, _, _, hx, hf⟩ := DataW.trod_struct Try.underlying64 h
  have g0 : DataW.trod enc Try.prog w base spare held n 31 ((([v0, v1, v2, v3, v4, v5, v6, v7] : List Value).drop 0).take (Try.prog.cellsOf 31)) = xs[0]? := hf 0 _ rfl
  have g1 : DataW.trod enc Try.prog w base spare held n 3 ((([v0, v1, v2, v3, v4, v5, v6, v7] : List Value).drop 3).take (Try.prog.cellsOf 3)) = xs[1]? := hf 1 _ rfl
  have g2 : DataW.trod enc Try.prog w base spare held n 3 ((([v0, v1, v2, v3, v4, v5, v6, v7] : List Value).drop 4).take (Try.prog.cellsOf 3)) = xs[2]? := hf 2 _ rfl
  have g3 : DataW.trod enc Try.prog w base spare held n 3 ((([v0, v1, v2, v3, v4, v5, v6, v7] : List Value).drop 5).take (Try.prog.cellsOf 3)) = xs[3]? := hf 3 _ rfl
  have g4 : DataW.trod enc Try.prog w base spare held n 3 ((([v0, v1, v2, v3, v4, v5, v6, v7] : List Value).drop 6).take (Try.prog.cellsOf 3)) = xs[4]? := hf 4 _ rfl
  have g5 : DataW.trod enc Try.prog w base spare held n 3 ((([v0, v1, v2, v3, v4, v5, v6, v7] : List Value).drop 7).take (Try.prog.cellsOf 3)) = xs[5]? := hf 5 _ rfl
  obtain ⟨y0, e0⟩ := some_of (l := xs) (i := 0) (by rw [hx]; decide)
  obtain ⟨y1, e1⟩ := some_of (l := xs) (i := 1) (by rw [hx]; decide)
  obtain ⟨y2, e2⟩ := some_of (l := xs) (i := 2) (by rw [hx]; decide)
  obtain ⟨y3, e3⟩ := some_of (l := xs) (i := 3) (by rw [hx]; decide)
  obtain ⟨y4, e4⟩ := some_of (l := xs) (i := 4) (by rw [hx]; decide)
  obtain ⟨y5, e5⟩ := some_of (l := xs) (i := 5) (by rw [hx]; decide)
  rw [e0] at g0
  rw [e1] at g1
  rw [e2] at g2
  rw [e3] at g3
  rw [e4] at g4
  rw [e5] at g5
  rw [cells_three, show (([v0, v1, v2, v3, v4, v5, v6, v7] : List Value).drop 0).take 3 = [v0, v1, v2] from rfl] at g0
  rw [cells_int] at g1 g2 g3 g4 g5
  obtain ⟨zs, m, _, _, _, hz, ha⟩ := DataW.trod_array Try.underlying31 g0
  have a0 : DataW.trod enc Try.prog w base spare held m 3 ((([v0, v1, v2] : List Value).drop (0 * Try.prog.cellsOf 3)).take (Try.prog.cellsOf 3)) = zs[0]? := ha 0 (by omega)
  simp only [cells_int] at a0
  have a1 : DataW.trod enc Try.prog w base spare held m 3 ((([v0, v1, v2] : List Value).drop (1 * Try.prog.cellsOf 3)).take (Try.prog.cellsOf 3)) = zs[1]? := ha 1 (by omega)
  simp only [cells_int] at a1
  have a2 : DataW.trod enc Try.prog w base spare held m 3 ((([v0, v1, v2] : List Value).drop (2 * Try.prog.cellsOf 3)).take (Try.prog.cellsOf 3)) = zs[2]? := ha 2 (by omega)
  simp only [cells_int] at a2
  obtain ⟨u0, f0⟩ := some_of (l := zs) (i := 0) (by omega)
  obtain ⟨u1, f1⟩ := some_of (l := zs) (i := 1) (by omega)
  obtain ⟨u2, f2⟩ := some_of (l := zs) (i := 2) (by omega)
  rw [f0] at a0
  rw [f1] at a1
  rw [f2] at a2
  have a0 : DataW.trod enc Try.prog w base spare held m 3 [v0] = some u0 := a0
  have a1 : DataW.trod enc Try.prog w base spare held m 3 [v1] = some u1 := a1
  have a2 : DataW.trod enc Try.prog w base spare held m 3 [v2] = some u2 := a2
  have g1 : DataW.trod enc Try.prog w base spare held n 3 [v3] = some y1 := g1
  have g2 : DataW.trod enc Try.prog w base spare held n 3 [v4] = some y2 := g2
  have g3 : DataW.trod enc Try.prog w base spare held n 3 [v5] = some y3 := g3
  have g4 : DataW.trod enc Try.prog w base spare held n 3 [v6] = some y4 := g4
  have g5 : DataW.trod enc Try.prog w base spare held n 3 [v7] = some y5 := g5
  obtain ⟨n0, rfl⟩ := int_one a0
  obtain ⟨n1, rfl⟩ := int_one a1
  obtain ⟨n2, rfl⟩ := int_one a2
  obtain ⟨n3, rfl, hk⟩ := int_wf g1
  obtain ⟨n4, rfl⟩ := int_one g2
  obtain ⟨n5, rfl⟩ := int_one g3
  obtain ⟨n6, rfl⟩ := int_one g4
  obtain ⟨n7, rfl⟩ := int_one g5
  exact ⟨⟨⟨n0, n1, n2, 0⟩, n3, n4, n5, n6, n7⟩, rfl, hk⟩
theorem flat_asks {l : List Que} : ∀ {xs : List Value}, Flat (fun (q : Que) cs => cs = q.cells ∧ q.k < 9223372036854775808) 8 l xs → xs = acells l ∧ ∀ q ∈ l, q.k < 9223372036854775808 := by
  induction l with
  | nil => intro xs h; exact ⟨h, fun q hq => by cases hq⟩
  | cons r l ih =>
    rintro xs ⟨cs, ys, rfl, _, hr, ht⟩
    obtain ⟨e, he⟩ := ih ht
    obtain ⟨hr', hk⟩ : cs = r.cells ∧ r.k < 9223372036854775808 := hr
    refine ⟨?_, fun q hq => ?_⟩
    · rw [e, hr']
      unfold acells
      rw [List.map_cons, List.flatten_cons]
    · rcases List.mem_cons.1 hq with rfl | hq
      · exact hk
      · exact he q hq
theorem asks_open {fuel : Nat} {v : Value} {x : DataW H × List MemPlace} (h : DataW.trod enc Try.prog w base spare held fuel 62 [v] = some x) : ∃ A c l, v = .slice A l.length c ∧ l.length ≤ maxLen ∧ Go.Proofs.Ytgabidgpngiecaa.AsksIn w.heap.size w A l ∧ ∀ q ∈ l, q.k < 9223372036854775808 := by
  obtain ⟨A, n, c, l, rfl, hc, hm, hr⟩ := trod_recs (R := fun _ (q : Que) cs => cs = q.cells ∧ q.k < 9223372036854775808) Try.underlying62 rfl cells_ask (by omega) (fun _ _ _ hl h => ask_open hl h) h
  have hn := Recs.len (by omega) hr
  obtain ⟨xs, h1, h2⟩ := hr
  obtain ⟨rfl, hk⟩ := flat_asks h2
  subst hn
  exact ⟨A, c, l, rfl, Nat.le_trans hc hm, h1, hk⟩
end
end Go.Proofs.YtgabidgpngiecaaOpen

namespace Go.Proofs.YtgabidgpngiecaaKit
open Go.RowKit

section
variable {P : Program} (w : World)
/-- What is appended to a slice whose capacity is its length lies in a new block, or nothing is appended. -/
theorem run_append_cut (t ty e : TypeId) (i : TypeInfo) (z : Value) (size bytes : Nat) (ht : P.underlying t = some (.slice e)) (hi : P.info? e = some i) (hz : i.zero = some z)
    (hsize : i.size = size) (hby : i.bytes = bytes) (hzs : z.cells.size = size) (hmu : mutTy e = false)
    (base B : Nat) (A D : Option Addr) (k m c : Nat) (olds news : List Value) (hA : Reads base w e size A k olds) (hD : Reads B w e size D m news)
    (hbytes : (k + m) * bytes ≤ 140737488355328) (h63 : k + m ≤ maxLen) :
    ∃ A' c' w', (Builtin.append_ #[t, t] ty #[.slice A k k, .slice D m c]).run P w = .ok (.slice A' (k + m) c') w' ∧ k + m ≤ c' ∧ Reads base w' e size A' (k + m) (olds ++ news) ∧ Keep No w w' ∧ (A' = A ∨ A' = some ⟨w.heap.size, 0, none⟩) := by
  subst hsize
  subst hby
  have hsmall : k + m ≤ 9223372036854775807 := by simp only [maxLen] at h63; omega
  have hlen : (olds ++ news).length = (k + m) * i.size := by rw [List.length_append, hA.1, hD.1, Nat.add_mul]
  have grown : ∀ (old : Nat), old < k + m →
      Reads base (w.drew.alloc (.cells (olds.toArray ++ news.toArray ++ Builtin.zeroCells z.cells (grownCap w (k + m) old e - (k + m))) e)) e i.size (some ⟨w.heap.size, 0, none⟩) (k + m) (olds ++ news) ∧
      Keep No w (w.drew.alloc (.cells (olds.toArray ++ news.toArray ++ Builtin.zeroCells z.cells (grownCap w (k + m) old e - (k + m))) e)) := by
    intro old _
    have hB := Blk.new w.drew e (olds.toArray ++ news.toArray ++ Builtin.zeroCells z.cells (grownCap w (k + m) old e - (k + m)))
    refine ⟨⟨hlen, fun _ => ⟨_, rfl, Blk.imm hB hmu, fun j u hu => ?_⟩⟩, ((Keep.refl No w).drew).alloc _⟩
    have h1 := hB.cell j
    rw [Addr.add_lit, Nat.zero_add]
    refine h1.trans ?_
    rw [← Array.getElem?_toList, Array.toList_append, Array.toList_append, List.getElem?_append_left]
    · exact hu
    · exact (List.getElem?_eq_some_iff.1 hu).1
  by_cases hm : m = 0
  · subst hm
    have hn : news = [] := List.eq_nil_of_length_eq_zero (by simpa using hD.1)
    subst hn
    refine ⟨A, k, w, ?_, Nat.le_refl _, by rw [List.append_nil]; exact hA, Keep.refl _ _, .inl rfl⟩
    cases A <;> cases D <;> simp [Builtin.append_, run_underlying ht, sizeOf, typeInfo, hi, Builtin.lenOf, Builtin.firstCells, loadCells, loadCellsFrom, storeCells]
  · obtain ⟨a, rfl, _, hnews⟩ := hD.2 (by omega)
    cases A with
    | none =>
      have hk : k = 0 := by
        refine Decidable.byContradiction fun h => ?_
        obtain ⟨ad, e, _⟩ := hA.2 (by omega)
        cases e
      subst hk
      have ho : olds = [] := List.eq_nil_of_length_eq_zero (by simpa using hA.1)
      subst ho
      have hr := run_append_nil (P := P) w t ty e i z ht hi hz a m c news hD.1 hnews (by omega) (by omega) (by have hb := hbytes; simp only [Nat.zero_add] at hb; omega)
      have hgr := grown 0 (by omega)
      simp only [Nat.zero_add, List.nil_append, Array.empty_append] at hgr ⊢
      exact ⟨_, _, _, hr, grownCap_ge w m 0 e, hgr.1, hgr.2, .inr rfl⟩
    | some b =>
      have holds : ∀ j u, olds[j]? = some u → w.cell? (b.add j) = some u := fun j u hu => by
        have hj := (List.getElem?_eq_some_iff.1 hu).1
        rw [hA.1] at hj
        obtain ⟨ad, e, _, h⟩ := hA.2 (by
          refine Nat.pos_of_ne_zero fun h0 => ?_
          rw [h0, Nat.zero_mul] at hj
          omega)
        injection e with e
        subst e
        exact h j u hu
      have hr := run_append_grow (P := P) w t ty e i z ht hi hz b k k olds hA.1 holds a m c news hD.1 hnews (by omega) (by omega) (growslice_fits (by omega) hbytes)
      have hgr := grown k (by omega)
      exact ⟨_, _, _, hr, grownCap_ge w (k + m) k e, hgr.1, hgr.2, .inr rfl⟩
theorem step_append_cut {ops : Array Oper} {o : Oper} {a : Act} {K : Act → World → Prop} {Q : Exit → Act → World → Prop} {E : Prop} (hgd : o.guard = none) (s x : Operand) (t : TypeId)
    (ho : o.op = .call { callee := .builtin .append, args := #[s, x], argTypes := #[t, t] })
    (e : TypeId) (i : TypeInfo) (z : Value) (size bytes : Nat) (ht : P.underlying t = some (.slice e)) (hi : P.info? e = some i) (hz : i.zero = some z)
    (hsize : i.size = size) (hby : i.bytes = bytes) (hzs : z.cells.size = size) (hmu : mutTy e = false)
    (base B : Nat) (A D : Option Addr) (k m c : Nat) (olds news : List Value) (hs : a.eval s = .slice A k k) (hx : a.eval x = .slice D m c) (hA : Reads base w e size A k olds) (hD : Reads B w e size D m news)
    (hbytes : (k + m) * bytes ≤ 140737488355328) (h63 : k + m ≤ maxLen)
    (h : ∀ A' c' w', k + m ≤ c' → Reads base w' e size A' (k + m) (olds ++ news) → Keep No w w' → (A' = A ∨ A' = some ⟨w.heap.size, 0, none⟩) → K (a.put o.dst (.slice A' (k + m) c')) w') :
    if Region.wanted o (yielded ops a.tmps) = true then Oper.wp P o a w K Q else E := by
  have hw : Region.wanted o (yielded ops a.tmps) = true := by simp [Region.wanted, hgd]
  rw [if_pos hw]
  obtain ⟨A', c', w', hrun, h2, h3, h4, h5⟩ := run_append_cut (P := P) w t o.type e i z size bytes ht hi hz hsize hby hzs hmu base B A D k m c olds news hA hD hbytes h63
  unfold Oper.wp execOp
  simp only [ho, resolve, invoke, builtin, Sem.run_bind, Sem.run_pure, Result.andThen_ok, List.map_toArray, List.map_cons, List.map_nil, hs, hx, hrun]
  exact h A' c' w' h2 h3 h4 h5
theorem Reads.apart {S : Nat → Prop} {base : Nat} {w w' : World} {e size n : Nat} {A : Option Addr} {xs : List Value} (h : Reads base w e size A n xs) (hk : Keep S w w') (hs : ∀ ad, A = some ad → ¬ S ad.block) : Reads base w' e size A n xs := by
  refine ⟨h.1, fun hn => ?_⟩
  obtain ⟨ad, rfl, hi, hc⟩ := h.2 hn
  have hns := hs ad rfl
  have hb : w'.heap[ad.block]? = w.heap[ad.block]? := hk.block _ hi.lt hns
  refine ⟨ad, rfl, hi.same hb hk.size, fun j u hu => ?_⟩
  have h1 := hk.cell (p := ad.add j) (by rw [block_of_add]; exact hi.lt) (by rw [block_of_add]; exact hns)
  exact h1.trans (hc j u hu)
end
end Go.Proofs.YtgabidgpngiecaaKit

namespace Go.Proofs.Ytgabidgpngiecaa
open Go.RowKit Go.Proofs.YtgabidgpngiecaaKit Go.Proofs.YtgabidgpngiecaaPlain

theorem row_hm {A : Option Addr} {n c f : Nat} (hf : f ≤ c) (W : World) : (Instr.sliceAt 22 (.slice A n c) none (some (.int .i64 (f : Int))) (some (.int .i64 (f : Int)))).run Try.prog W = .ok (.slice A f f) W := by
  have e2 : Try.prog.elem 22 = 33 := by kernel_rfl
  rw [run_sliceAt_slice (t := 22) (h := by kernel_rfl), run_slice_hm (P := Try.prog) (w := W) 22 A n c (by kernel_rfl) .i64 .i64 (f : Int) (f : Int) (by omega) (by omega) (by omega), e2, Try.sizeOf33]
  cases A <;> simp [Result.andThen, sliced, Addr.add]
/-- The models, and the rows that are left. -/
structure OrS (w W : World) (mb b nm nb : Nat) (R done left : List Row) (B : Option Addr) : Prop where
  m : Mdl w.heap.size W mb b R
  n : Mdl w.heap.size W nm nb done
  le : RowsIn w.heap.size W B left
  pm : (done ++ left).Perm R
  kp : Keep No w W
  ne : mb ≠ nm ∧ mb ≠ nb ∧ b ≠ nm ∧ b ≠ nb
  ge : w.heap.size ≤ nm ∧ w.heap.size ≤ nb
  bl : ∀ ad, B = some ad → ad.block ≠ nm ∧ ad.block ≠ nb
/-- Two models of the same rows. -/
structure EqM (w W : World) (mb b nm nb : Nat) (R done : List Row) : Prop where
  m : Mdl w.heap.size W mb b R
  n : Mdl w.heap.size W nm nb done
  pm : done.Perm R
  kp : Keep No w W
theorem EqM.new_ {w W W' : World} {mb b nm nb : Nat} {R done : List Row} (h : EqM w W mb b nm nb R done) (hk : Keep No W W') : EqM w W' mb b nm nb R done := ⟨h.m.new_ hk, h.n.new_ hk, h.pm, h.kp.trans hk (fun _ x => x.elim)⟩
theorem acells_get : ∀ (l : List Que) (k : Nat) (hk : k < l.length) (j : Nat) (u : Value), l[k].cells[j]? = some u → (acells l)[k * 8 + j]? = some u
  | [], k, hk, _, _, _ => absurd hk (by simp)
  | q :: l, 0, _, j, u, hu => by
    unfold acells
    rw [List.map_cons, List.flatten_cons, Nat.zero_mul, Nat.zero_add, List.getElem?_append_left]
    · exact hu
    · exact (List.getElem?_eq_some_iff.1 hu).1
  | q :: l, k + 1, hk, j, u, hu => by
    have ih := acells_get l k (by simpa using hk) j u (by simpa using hu)
    unfold acells at ih ⊢
    rw [List.map_cons, List.flatten_cons, List.getElem?_append_right (by rw [show q.cells.length = 8 from rfl]; omega), show q.cells.length = 8 from rfl, show (k + 1) * 8 + j - 8 = k * 8 + j from by omega]
    exact ih
theorem AsksIn.at_ {base : Nat} {w : World} {A : Option Addr} {l : List Que} (h : AsksIn base w A l) {k : Nat} (hk : k < l.length) : ∃ ad, A = some ad ∧ ∀ j u, j < 8 → l[k].cells[j]? = some u → w.cell? (ad.add (k * 8 + j)) = some u := by
  obtain ⟨ad, hA, _, hc⟩ := h.2 (by omega)
  exact ⟨ad, hA, fun j u _ hu => hc _ u (acells_get l k hk j u hu)⟩
theorem AsksIn.cells {base : Nat} {w : World} {A : Option Addr} {l : List Que} (h : AsksIn base w A l) {k : Nat} (hk : k < l.length) : ∃ ad, A = some ad ∧ w.cell? (ad.add (k * 8)) = some (.int .i64 l[k].x.a) ∧ w.cell? ⟨(ad.add (k * 8)).block, (ad.add (k * 8)).off + 1, none⟩ = some (.int .i64 l[k].x.b) ∧ w.cell? ⟨(ad.add (k * 8)).block, (ad.add (k * 8)).off + 2, none⟩ = some (.int .i64 l[k].x.c) ∧
    w.cell? ⟨(ad.add (k * 8)).block, (ad.add (k * 8)).off + 3, none⟩ = some (.int .i64 l[k].k) ∧ w.cell? ⟨(ad.add (k * 8)).block, (ad.add (k * 8)).off + 4, none⟩ = some (.int .i64 l[k].by_) ∧ w.cell? ⟨(ad.add (k * 8)).block, (ad.add (k * 8)).off + 5, none⟩ = some (.int .i64 l[k].of_) ∧
    w.cell? ⟨(ad.add (k * 8)).block, (ad.add (k * 8)).off + 6, none⟩ = some (.int .i64 l[k].deep) ∧ w.cell? ⟨(ad.add (k * 8)).block, (ad.add (k * 8)).off + 7, none⟩ = some (.int .i64 l[k].least) := by
  obtain ⟨ad, hA, hc⟩ := h.at_ hk
  refine ⟨ad, hA, hc 0 _ (by omega) rfl, ?_, ?_, ?_, ?_, ?_, ?_, ?_⟩
  · rw [add_field ad (k * 8) 1 (by omega)]; exact hc 1 _ (by omega) rfl
  · rw [add_field ad (k * 8) 2 (by omega)]; exact hc 2 _ (by omega) rfl
  · rw [add_field ad (k * 8) 3 (by omega)]; exact hc 3 _ (by omega) rfl
  · rw [add_field ad (k * 8) 4 (by omega)]; exact hc 4 _ (by omega) rfl
  · rw [add_field ad (k * 8) 5 (by omega)]; exact hc 5 _ (by omega) rfl
  · rw [add_field ad (k * 8) 6 (by omega)]; exact hc 6 _ (by omega) rfl
  · rw [add_field ad (k * 8) 7 (by omega)]; exact hc 7 _ (by omega) rfl
section
variable {w W W' : World} {mb b nm nb : Nat} {R done left : List Row} {B B' : Option Addr}
theorem OrS.new_ (h : OrS w W mb b nm nb R done left B) (hk : Keep No W W') : OrS w W' mb b nm nb R done left B := ⟨h.m.new_ hk, h.n.new_ hk, Reads.new_ h.le hk, h.pm, h.kp.trans hk (fun _ x => x.elim), h.ne, h.ge, h.bl⟩
/-- The other model learns one of them. -/
theorem OrS.learn (h : OrS w W mb b nm nb R done left B) {k : Nat} (hk : k < left.length) (hn : Mdl w.heap.size W' nm nb (left[k] :: done)) (hkp : Keep (fun x => x = nm ∨ x = nb) W W') : Mdl w.heap.size W' mb b R ∧ RowsIn w.heap.size W' B left ∧ Keep No w W' ∧ ((left[k] :: done) ++ (left.take k ++ left.drop (k + 1))).Perm R := by
  refine ⟨h.m.keep hkp (fun e => e.elim h.ne.1 h.ne.2.1) (fun e => e.elim h.ne.2.2.1 h.ne.2.2.2), Reads.apart h.le hkp (fun ad e e2 => e2.elim (h.bl ad e).1 (h.bl ad e).2), h.kp.trans hkp (fun x e => .inr (by rcases e with e | e <;> (subst e; first | exact h.ge.1 | exact h.ge.2))), ?_⟩
  have e1 : left = left.take k ++ left[k] :: left.drop (k + 1) := by rw [List.getElem_cons_drop, List.take_append_drop]
  have h2 := h.pm
  rw [e1] at h2
  refine List.Perm.trans ?_ h2
  have e3 : (left.take k ++ left[k] :: left.drop (k + 1)).Perm (left[k] :: (left.take k ++ left.drop (k + 1))) := List.perm_middle
  rw [List.cons_append]
  refine (List.perm_middle (a := left[k])).symm.trans ?_
  exact (List.Perm.append_left done e3.symm)
theorem OrS.cut (h : OrS w W mb b nm nb R done left B) (hr : RowsIn w.heap.size W' B' left) (hk : Keep No W W') (hat : B' = B ∨ B' = some ⟨W.heap.size, 0, none⟩) : OrS w W' mb b nm nb R done left B' := by
  have h1 := h.n.lt
  exact ⟨h.m.new_ hk, h.n.new_ hk, hr, h.pm, h.kp.trans hk (fun _ x => x.elim), h.ne, h.ge, fun ad e => by
    rcases hat with e2 | e2
    · exact h.bl ad (e2 ▸ e)
    · rw [e2] at e
      injection e with e
      subst e
      exact ⟨by show W.heap.size ≠ nm; omega, by show W.heap.size ≠ nb; omega⟩⟩
end
end Go.Proofs.Ytgabidgpngiecaa

namespace Go.Proofs.Ytgabidgpngiecaa
open Go.RowKit Go.Proofs.YtgabidgpngiecaaKit Go.Proofs.YtgabidgpngiecaaPlain

def pcells (ps : List Nat) : List Value := ps.map fun n => .int .u16 (n : Nat)
set_option maxHeartbeats 4000000 in
set_option maxRecDepth 100000 in
theorem learnOrders_walk {base : Nat} {w : World} {A Ap Aq : Option Addr} {c cp cq : Nat} {l : List Row} {ps : List Nat} {qs : List Que} (h : RowsIn base w A l) (hmax : l.length ≤ maxLen) (hp : Reads base w 45 1 Ap ps.length (pcells ps)) (hps : ∀ n ∈ ps, n < 65536) (hq : AsksIn base w Aq qs) (hqk : ∀ q ∈ qs, q.k < 9223372036854775808) :
    Calls Try.prog 7 #[.slice A l.length c, .slice Ap ps.length cp, .slice Aq qs.length cq] w fun e w' => e = .returned (.bool true) ∧ Keep No w w' := by
  obtain ⟨i0, hi0, hz0, hz1, hz2⟩ := info_parts info_row
  have HB := Lib.hid (built_of (c := c) 300 (by omega) h hmax)
  have HP := Lib.hid (show _ ∧ _ from ⟨hp, hps⟩)
  have HQ := Lib.hid (show _ ∧ _ from ⟨hq, hqk⟩)
  clear h hmax hp hps hq hqk
  go_enter Try.func7, Try.ntmps7
  go_wp2_with fail
  refine HB.out.mono ?_
  rintro e w1 ⟨v, R, rfl, hbi, hR⟩
  obtain ⟨Av, cv, rfl, hrin⟩ := hbi.ro.shape
  have hR3 : R.length ≤ 300 := by rw [hR]; exact takeOk_length _ _
  have HR3 := Lib.hid hR3
  have HOK := Lib.hid hbi.md.okay
  have HI := Lib.hid hbi
  clear hR HB hR3 hrin hbi
  go_wp2_with fail
  refine (new_any w1).mono ?_
  rintro e w2 ⟨rfl, hw2⟩
  have hK2 : Keep No w1 w2 := hw2 ▸ ((Keep.refl No w1).alloc _).alloc _
  have hM2 : Mdl w.heap.size w2 (w1.heap.size + 1) w1.heap.size [] := hw2 ▸ Mdl.made HI.out.kp.size
  have hS2 : w2.heap.size = w1.heap.size + 1 + 1 := by rw [hw2]; simp
  have HM2 := Lib.hid (show _ ∧ _ ∧ _ from ⟨hK2, hM2, hS2⟩)
  clear hw2 hK2 hM2 hS2
  by_cases h10 : 10 < qs.length
  · have hd : decide ((10 : Int) < (qs.length : Int)) = true := decide_eq_true (by omega)
    have hd' : decide (10 < qs.length) = true := decide_eq_true h10
    have HAl := Lib.hid (fun W => alive_any W)
    have HK2 := Lib.hid (HI.out.kp.trans HM2.out.1 (fun _ x => x.elim))
    clear h10
    go_wp2_with fail
    refine (HAl.out _).mono ?_
    rintro e w3 ⟨rfl, hk3⟩
    have HK3 := Lib.hid (HK2.out.trans hk3 (fun _ x => x.elim))
    clear hk3
    go_wp2_with fail
    go_ret
    exact ⟨rfl, HK3.out⟩
  have hd : decide ((10 : Int) < (qs.length : Int)) = false := decide_eq_false (by omega)
  have hd' : decide (10 < qs.length) = false := decide_eq_false h10
  have HQL := Lib.hid h10
  clear h10
  go_upto_region 6 with (at_builtin; go_loud (refine wpList_append_any _ rfl (.tmp 41) (.tmp 42) _ rfl w2.heap.size 33 i0 _ 4 32 Try.underlying22 hi0 hz0 hz1 hz2 rfl (by omega) (.slice (some ⟨w2.heap.size, 0, none⟩) 0 0) 0 [] rfl (own_empty_at (by simp) _ 4 (Nat.le_refl _)) 0 Av R.length cv (rcells R) rfl (Reads.new_ (Reads.of_own (HI.out.ro.keep HM2.out.1 (fun _ _ x => x)) rfl) ((Keep.refl No w2).alloc _)) (rcells_one _) (by have := HR3.out; simp only [maxLen]; omega) (by have := HR3.out; omega) (by simp) ?_; intro v3 w3 hown3 hg3 hat3; have H3 := Lib.hid (show _ ∧ _ ∧ _ from ⟨hown3, hg3, hat3⟩); clear hown3 hg3 hat3))
  have hown3 : ROwn w2.heap.size w3 v3 R := by
    have h := H3.out.1
    rw [Nat.zero_add, List.nil_append] at h
    exact h
  have hk3 : Keep No w2 w3 := ((Keep.refl No w2).alloc _).grown H3.out.2.1 (fun k e => .inr (by rw [← Option.some.inj e]; exact Nat.le_refl _))
  obtain ⟨B3, c3, rfl, hc3⟩ := own_shape hown3
  have HO0 := Lib.hid (show OrS w w3 (w.heap.size + 1) w.heap.size (w1.heap.size + 1) w1.heap.size R [] R B3 from
    ⟨(HI.out.new_ (HM2.out.1.trans hk3 (fun _ x => x.elim))).md, HM2.out.2.1.new_ hk3, Reads.of_own hown3 rfl, List.Perm.refl _, (HI.out.kp.trans HM2.out.1 (fun _ x => x.elim)).trans hk3 (fun _ x => x.elim), ⟨by have := HI.out.md.lt; omega, by have := HI.out.md.lt; omega, by have := HI.out.md.lt; omega, by have := HI.out.md.lt; omega⟩, ⟨by have := HI.out.kp.size; omega, HI.out.kp.size⟩, fun ad e => by
      subst e
      have h1 := (hown3.lt ad.block rfl).1
      have h2 := HM2.out.2.2
      omega⟩)
  have HPW := Lib.hid HP
  clear H3 hown3 hk3 HI HM2
  generalize w1.heap.size + 1 = nm at *
  generalize w1.heap.size = nb at *
  go_wp2_with fail
  go_loopg [10, 11] R.length (fun kx s10 s11 wr => ∃ (B : Option Addr) (d i : Nat) (left done : List Row), s10 = .slice B left.length d ∧ s11 = .int .i64 i ∧ left.length ≤ d ∧ left.length ≤ kx ∧ i + left.length = R.length ∧ Hid (OrS w wr (w.heap.size + 1) w.heap.size nm nb R done left B))
  case atStart => exact ⟨B3, c3, 0, R, [], rfl, rfl, hc3, Nat.le_refl _, Nat.zero_add _, HO0⟩
  case round =>
    clear HO0
    obtain ⟨B, d, i, left, done, rfl, rfl, hd3, hkx, hil, HS⟩ := hrel
    by_cases hlt : 0 < left.length
    · have hlz : (0 : Int) < (left.length : Int) := by omega
      have hgd : decide ((0 : Int) < (left.length : Int)) = true := decide_eq_true hlz
      have j0 : (0 : Int) ≤ (i : Int) := by omega
      go_upto_if 52 with fail
      go_cut [12] (fun s12 wc => ∃ k : Nat, s12 = .int .i64 k ∧ k < left.length ∧ Hid (OrS w wc (w.heap.size + 1) w.heap.size nm nb R done left B))
      case first =>
        by_cases hip : i < ps.length
        · have hd2 : decide ((i : Int) < (ps.length : Int)) = true := decide_eq_true (by omega)
          have hd2' : decide (i < ps.length) = true := decide_eq_true hip
          have j1 : (i : Int) < (ps.length : Int) := by omega
          obtain ⟨ad, hA, _, hcells⟩ := (Reads.new_ HP.out.1 HS.out.kp).2 (by omega)
          subst hA
          have hn := HP.out.2 _ (List.getElem_mem hip)
          have e0 := hcells i (.int .u16 (ps[i] : Nat)) (by simp [pcells, hip])
          generalize ps[i] = p at *
          have hx1 : IntKind.i64.wrap ((p : Nat) : Int) = (p : Nat) := fit64 (by omega) (by omega)
          have hx2 : ((p : Nat) : Int).tmod (left.length : Int) = ((p % left.length : Nat) : Int) := by rw [Int.tmod_eq_emod_of_nonneg (by omega)]; rfl
          have hx3 : IntKind.i64.wrap ((p % left.length : Nat) : Int) = ((p % left.length : Nat) : Int) := by
            have := Nat.mod_lt p hlt
            exact fit64 (by omega) (by have := HR3.out; omega)
          have hml := Nat.mod_lt p hlt
          generalize p % left.length = k at *
          clear hcells hip
          go_wp2_with fail
          go_meet
          exact ⟨k, rfl, hml, HS⟩
        · have hd2 : decide ((i : Int) < (ps.length : Int)) = false := decide_eq_false (by omega)
          have hd2' : decide (i < ps.length) = false := decide_eq_false hip
          have j1 : ¬ (i : Int) < (ps.length : Int) := by omega
          clear hip
          go_wp2_with fail
          go_meet
          exact ⟨0, rfl, hlt, HS⟩
      case rest =>
        clear HS
        obtain ⟨k, rfl, hk, HS⟩ := hcut
        obtain ⟨ad, rfl, _, e0, e1, e2, e3⟩ := HS.out.le.at_ hk
        have hok := HOK.out left[k] (HS.out.pm.mem_iff.1 (List.mem_append_right _ (List.getElem_mem hk)))
        have hdl : done.length < 500 := by
          have := HS.out.pm.length_eq
          rw [List.length_append] at this
          have := HR3.out
          omega
        have HL := Lib.hid (learn_yes left[k] HS.out.n hok hdl)
        have HGO := Lib.hid (fun W' (hn : Mdl w.heap.size W' nm nb (left[k] :: done)) (hkp : Keep (fun x => x = nm ∨ x = nb) wc W') => HS.out.learn hk hn hkp)
        have HS0 := Lib.hid (show _ ∧ _ ∧ _ from ⟨HS.out.ne, HS.out.ge, HS.out.bl⟩)
        have k0 : (0 : Int) ≤ (k : Int) := by omega
        have k1 : (k : Int) < (left.length : Int) := by omega
        have hw1 : IntKind.i64.wrap ((k : Int) + 1) = (k : Int) + 1 := IntWalk.i64_in _ ⟨by omega, by have := HR3.out; omega⟩
        obtain ⟨r, hr⟩ : ∃ r, r = left[k] := ⟨_, rfl⟩
        rw [← hr] at e0 e1 e2 e3 HL HGO
        unfold Row.v at HL
        clear hok hdl HS hr
        go_wp2_with fail
        refine HL.out.mono ?_
        rintro e w5 ⟨rfl, hn5, hk5⟩
        obtain ⟨g1, g2, g3, g4⟩ := HGO.out w5 hn5 hk5
        have H5 := Lib.hid (show _ ∧ _ ∧ _ ∧ _ ∧ _ from ⟨g1, hn5, g2, g3, g4⟩)
        clear g1 g2 g3 g4 hn5 hk5 HGO HL e0 e1 e2 e3
        generalize hB : some ad = B at *
        clear hB
        have hs4 := row_hm (A := B) (n := left.length) (c := d) (f := k) (by omega)
        obtain ⟨A5, hs5, HR5⟩ := row_lo H5.out.2.2.1 hk hd3
        have HR4 := Lib.hid (rrows_take H5.out.2.2.1 (Nat.le_of_lt hk))
        have HR5 := Lib.hid HR5
        have hkw0 : Keep No w5 w5.drew := (Keep.refl No w5).drew
        have hlen : (left.take k ++ left.drop (k + 1)).length = k + (left.length - (k + 1)) := by
          rw [List.length_append, List.length_take, List.length_drop]
          omega
        have HLEN := Lib.hid hlen
        clear hlen
        go_wp2_with fail
        go_region_held3 (fun W => Keep No w5 W)
          (first
            | (with_reducible exact hkw0)
            | (with_reducible exact hkw6)
            | fail)
          (first
            | (refine step_append_cut _ (by rfl) _ _ _ (by rfl) 33 i0 _ 4 32 Try.underlying22 hi0 hz0 hz1 hz2 rfl (by rfl) w.heap.size w.heap.size B A5 k (left.length - (k + 1)) (d - (k + 1)) (rcells (left.take k)) (rcells (left.drop (k + 1))) (by rfl) (by rfl) (Reads.new_ HR4.out hkw0) (Reads.new_ HR5.out hkw0) (by have := HR3.out; omega) (by have := HR3.out; simp only [maxLen]; omega) ?_; intro B' c' w6 hc' hr6 hk6 hat6; have hkw6 : Keep No w5 w6 := hkw0.trans hk6 (fun _ x => x.elim); have H6 := Lib.hid (show _ ∧ _ ∧ _ from ⟨hc', hr6, hat6⟩); clear hc' hr6 hk6 hat6)
            | fail)
        have HS6 := Lib.hid (show OrS w w6 (w.heap.size + 1) w.heap.size nm nb R (r :: done) (left.take k ++ left.drop (k + 1)) B' from
          ⟨H5.out.1.new_ hkw6, H5.out.2.1.new_ hkw6, by
            have h := H6.out.2.1
            unfold RowsIn
            rw [HLEN.out, rcells_append]
            exact h, H5.out.2.2.2.2, H5.out.2.2.2.1.trans hkw6 (fun _ x => x.elim), HS0.out.1, HS0.out.2.1, fun ad e => by
            rcases H6.out.2.2 with e2 | e2
            · exact HS0.out.2.2 ad (e2 ▸ e)
            · rw [e2] at e
              injection e with e
              subst e
              have h1 := H5.out.2.1.lt
              exact ⟨by show w5.heap.size ≠ nm; omega, by show w5.heap.size ≠ nb; omega⟩⟩)
        have hc6 := H6.out.1
        have hi5 : i < 500 := by have := HR3.out; omega
        clear hs4 hs5 HR4 HR5 H5 H6 hkw0 hkw6 HS0 hw1
        go_wp2_with fail
        go_roundg ((left.take k ++ left.drop (k + 1)).length)
        case measure => rw [HLEN.out]; omega
        case rel => exact ⟨B', c', i + 1, left.take k ++ left.drop (k + 1), r :: done, by rw [HLEN.out], by go_num, by rw [HLEN.out]; exact hc6, Nat.le_refl _, by rw [HLEN.out]; omega, HS6⟩
    · obtain rfl : left = [] := List.eq_nil_of_length_eq_zero (by omega)
      have hgd : decide ((0 : Int) < 0) = false := rfl
      have HEn := Lib.hid (show EqM w wr (w.heap.size + 1) w.heap.size nm nb R done from ⟨HS.out.m, HS.out.n, by have := HS.out.pm; rw [List.append_nil] at this; exact this, HS.out.kp⟩)
      clear HS
      go_wp2_with fail
      go_loopg [79] qs.length (fun ky s79 wr => ∃ k : Nat, s79 = .int .i64 k ∧ k ≤ qs.length ∧ qs.length ≤ k + ky ∧ Hid (EqM w wr (w.heap.size + 1) w.heap.size nm nb R done))
      case atStart => exact ⟨0, rfl, Nat.zero_le _, by omega, HEn⟩
      case round =>
        clear HEn
        obtain ⟨k, rfl, hk, hky, HE⟩ := hrel
        by_cases hlt : k < qs.length
        · obtain ⟨ad, hA, e0, e1, e2, e3, e4, e5, e6, e7⟩ := AsksIn.cells (show AsksIn base wr Aq qs from Reads.new_ HQ.out.1 HE.out.kp) hlt
          subst hA
          have hqk := HQ.out.2 _ (List.getElem_mem hlt)
          generalize qs[k] = q at *
          have ka := (Keep.refl No wr).alloc (.cells #[.int .i64 q.x.a, .int .i64 q.x.b, .int .i64 q.x.c, .int .i64 q.k, .int .i64 q.by_, .int .i64 q.of_, .int .i64 q.deep, .int .i64 q.least] 64)
          have HE2 := Lib.hid (HE.out.new_ ka)
          have HEq := Lib.hid (equal_any HE2.out.m HE2.out.n HE2.out.pm.symm q.x q.k q.by_ q.of_ q.deep q.least hqk)
          unfold askV at HEq
          have j0 : (0 : Int) ≤ (k : Int) := by omega
          have j1 : (k : Int) < (qs.length : Int) := by omega
          have hk5 : k < 500 := by have := HQL.out; omega
          clear ka HE hqk
          go_wp2_with fail
          refine HEq.out.mono ?_
          rintro e w7 ⟨rfl, hk7⟩
          have HE7 := Lib.hid (HE2.out.new_ hk7)
          clear hk7 HE2 HEq e0 e1 e2 e3 e4 e5 e6 e7
          go_wp2_with fail
          go_roundg (qs.length - (k + 1))
          case measure => omega
          case rel => exact ⟨k + 1, by go_num, by omega, by omega, HE7⟩
        · obtain rfl : k = qs.length := by omega
          obtain ⟨L0, hc0, hp0⟩ := canon_exists HE.out.m
          have HIa := Lib.hid (fun W (hW : Keep No wr W) => image_str (HE.out.m.new_ hW) hc0 hp0)
          have HIb := Lib.hid (fun W (hW : Keep No wr W) => image_str (HE.out.n.new_ hW) hc0 (hp0.trans HE.out.pm.symm))
          have HAl := Lib.hid (fun W => alive_any W)
          have HKW := Lib.hid HE.out.kp
          generalize imgL L0 = im at *
          clear hc0 hp0 HE
          go_wp2_with fail
          have K0 := Lib.hid ((Keep.refl No wr).drew)
          go_region_with (first
            | (go_at_call 12; refine (HAl.out _).mono ?_; rintro e w16 ⟨rfl, hkc⟩; have K5 := Lib.hid (K4.out.trans hkc (fun _ x => x.elim)); clear hkc)
            | (go_at_call 17; refine (HIb.out _ K3.out).mono ?_; rintro e w15 ⟨A6, n6, c6, rfl, hb6, hkc⟩; have hcv6 := Bytes.conv (P := Try.prog) hb6 c6 Try.underlying41 Try.underlying5 Try.underlying9; have hcv7 := Bytes.conv (P := Try.prog) (HB5.out.new_ hkc) c5 Try.underlying41 Try.underlying5 Try.underlying9; have K4 := Lib.hid (K3.out.trans hkc (fun _ x => x.elim)); clear hkc hb6)
            | (go_at_call 17; go_loud (refine (HIa.out _ K0.out).mono ?_; rintro e w14 ⟨A5, n5, c5, rfl, hb5, hkc⟩; have hcv5 := Bytes.conv (P := Try.prog) hb5 c5 Try.underlying41 Try.underlying5 Try.underlying9; have HB5 := Lib.hid hb5; have K3 := Lib.hid (K0.out.trans hkc (fun _ x => x.elim)); clear hkc hb5)))
          all_goals
            go_wp2_with fail
            go_ret
            exact ⟨rfl, HKW.out.trans K5.out (fun _ x => x.elim)⟩
end Go.Proofs.Ytgabidgpngiecaa
