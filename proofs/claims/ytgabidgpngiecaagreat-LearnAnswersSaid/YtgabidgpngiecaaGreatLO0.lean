/- Arguments of the Learn laws opened: rows, points, numbers. Conditions: none. -/
import Derived.Test.YtgabidgpngiecaaGreatLA0
import Derived.ProofKit
import Derived.OpenShut
import Derived.Lib.SmallJoins
import Derived.Deep.Slices
import Derived.Deep.Fields
import Derived.Test.YtgabidgpngiecaaGreatLV0
namespace Go.Proofs.YtgabidgpngiecaaGreatOpen
open Go.RowKit Go.Proofs.YtgabidgpngiecaaGreatKit Go.Proofs.YtgabidgpngiecaaGreatPlain Go.Proofs.YtgabidgpngiecaaGreat Go.ChangeShapes Go.WideShapes Go.ChangeAt Go.Deep

section
variable {H : Type} {enc : TypeId × Value → H} {P : Program} {w : World} {base : Nat} {spare : Nat → Bool} {held : Bool}
theorem recs_each {α : Type} {R : α → List Value → Prop} {size : Nat} {ad : Addr} (n : Nat)
    (h : ∀ i, i < n → ∃ x cs, R x cs ∧ cs.length = size ∧ ∀ j u, cs[j]? = some u → w.cell? (ad.add (i * size + j)) = some u) :
    ∃ l xs, xs.length = n * size ∧ Flat R size l xs ∧ ∀ j u, xs[j]? = some u → w.cell? (ad.add j) = some u := by
  induction n with
  | zero => exact ⟨[], [], by simp, Flat.nil, fun j u hu => by simp at hu⟩
  | succ n ih =>
    obtain ⟨l, xs, hl, hf, hc⟩ := ih (fun i hi => h i (by omega))
    obtain ⟨x, cs, hx, hcs, hcc⟩ := h n (by omega)
    refine ⟨l ++ [x], xs ++ cs, by rw [List.length_append, hl, hcs, Nat.succ_mul], hf.append (Flat.one hx hcs), fun j u hu => ?_⟩
    rcases Nat.lt_or_ge j xs.length with hj | hj
    · rw [List.getElem?_append_left hj] at hu; exact hc j u hu
    · rw [List.getElem?_append_right hj] at hu
      have := hcc _ u hu
      rwa [hl, show n * size + (j - n * size) = j by omega] at this

/-- A slice of records. -/
theorem trod_recs {α : Type} {R : World → α → List Value → Prop} {size : Nat} {t e : TypeId} {fuel : Nat} {v : Value} {x : DataW H × List MemPlace} (ht : P.underlying t = some (.slice e)) (he : mutTy e = false) (hs : P.cellsOf e = size) (hpos : 0 < size)
    (hel : ∀ n cs D, cs.length = size → DataW.trod enc P w base spare held n e cs = some D → ∃ s, R w s cs)
    (h : DataW.trod enc P w base spare held fuel t [v] = some x) : ∃ A n c l, v = .slice A n c ∧ n ≤ c ∧ c ≤ maxLen ∧ Recs w.heap.size e R size w A n l := by
  rcases open_slice ht h with ⟨e, _⟩ | ⟨a, len, cap, m, n, D, Pl, e, hb, hl, hm, hmm, _, hi⟩
  · simp at e; subst e
    exact ⟨none, 0, 0, [], rfl, Nat.le_refl _, Nat.zero_le _, [], Reads.none_, Flat.nil⟩
  · simp at e; subst e
    have hlm : len ≤ m := by rw [hmm]; split <;> omega
    rw [hs] at hi
    obtain ⟨l, xs, hlx, hf, hc⟩ := recs_each (w := w) (R := R w) (size := size) (ad := a) len (fun i hilt => by
      obtain ⟨cs, h1, h2⟩ := hi i (by omega)
      obtain ⟨_, h3, h4⟩ := World.cells?_some h1
      obtain ⟨s, hs'⟩ := hel _ _ _ h3 h2
      refine ⟨s, cs, hs', h3, fun j u hu => ?_⟩
      have hj := (List.getElem?_eq_some_iff.1 hu).1
      have := h4 j (by omega)
      rw [add_of_add] at this
      rw [this, hu])
    refine ⟨some a, len, cap, l, rfl, hl, hm, xs, ⟨hlx, fun hn => ⟨a, rfl, ?_, hc⟩⟩, hf⟩
    obtain ⟨cs, h1, _⟩ := hi 0 (by omega)
    have := World.cells?_block h1 hpos
    rw [block_of_add] at this
    exact Imm.old he this this
end


section
variable {H : Type} {enc : TypeId × Value → H} {w : World} {base : Nat} {spare : Nat → Bool} {held : Bool}
theorem list4 {cs : List Value} (h : cs.length = 4) : ∃ a b c d, cs = [a, b, c, d] := by
  match cs, h with
  | [a, b, c, d], _ => exact ⟨a, b, c, d, rfl⟩
theorem some_of {α : Type} {l : List α} {i : Nat} (h : i < l.length) : ∃ y, l[i]? = some y := ⟨_, List.getElem?_eq_getElem h⟩
theorem int_one {fuel : Nat} {v : Value} {x : DataW H × List MemPlace} (h : DataW.trod enc Tryz.prog w base spare held fuel 3 [v] = some x) : ∃ n : Int, v = .int .i64 n := by
  obtain ⟨n, e, _, _⟩ := DataW.trod_int Tryz.underlying3 h
  simp at e
  exact ⟨n, e⟩
set_option maxRecDepth 100000 in
theorem row_open {fuel : Nat} {cs : List Value} {x : DataW H × List MemPlace} (hl : cs.length = 4) (h : DataW.trod enc Tryz.prog w base spare held fuel 30 cs = some x) : ∃ r : Row, cs = r.cells := by
  obtain ⟨v0, v1, v2, v3, rfl⟩ := list4 hl
  obtain ⟨xs, n, _, _, _, hx, hf⟩ := DataW.trod_struct Tryz.underlying30 h
  have g0 : DataW.trod enc Tryz.prog w base spare held n 28 ((([v0, v1, v2, v3] : List Value).drop 0).take (Tryz.prog.cellsOf 28)) = xs[0]? := hf 0 _ rfl
  have g1 : DataW.trod enc Tryz.prog w base spare held n 3 ((([v0, v1, v2, v3] : List Value).drop 3).take (Tryz.prog.cellsOf 3)) = xs[1]? := hf 1 _ rfl
  obtain ⟨y0, e0⟩ := some_of (l := xs) (i := 0) (by rw [hx]; decide)
  obtain ⟨y1, e1⟩ := some_of (l := xs) (i := 1) (by rw [hx]; decide)
  rw [e0] at g0
  rw [e1] at g1
  rw [cells_three, show (([v0, v1, v2, v3] : List Value).drop 0).take 3 = [v0, v1, v2] from rfl] at g0
  rw [cells_int, show (([v0, v1, v2, v3] : List Value).drop 3).take 1 = [v3] from rfl] at g1
  obtain ⟨zs, m, _, _, _, hz, ha⟩ := DataW.trod_array Tryz.underlying28 g0
  have a0 : DataW.trod enc Tryz.prog w base spare held m 3 ((([v0, v1, v2] : List Value).drop (0 * Tryz.prog.cellsOf 3)).take (Tryz.prog.cellsOf 3)) = zs[0]? := ha 0 (by omega)
  simp only [cells_int] at a0
  have a1 : DataW.trod enc Tryz.prog w base spare held m 3 ((([v0, v1, v2] : List Value).drop (1 * Tryz.prog.cellsOf 3)).take (Tryz.prog.cellsOf 3)) = zs[1]? := ha 1 (by omega)
  simp only [cells_int] at a1
  have a2 : DataW.trod enc Tryz.prog w base spare held m 3 ((([v0, v1, v2] : List Value).drop (2 * Tryz.prog.cellsOf 3)).take (Tryz.prog.cellsOf 3)) = zs[2]? := ha 2 (by omega)
  simp only [cells_int] at a2
  obtain ⟨u0, f0⟩ := some_of (l := zs) (i := 0) (by omega)
  obtain ⟨u1, f1⟩ := some_of (l := zs) (i := 1) (by omega)
  obtain ⟨u2, f2⟩ := some_of (l := zs) (i := 2) (by omega)
  rw [f0] at a0
  rw [f1] at a1
  rw [f2] at a2
  have a0 : DataW.trod enc Tryz.prog w base spare held m 3 [v0] = some u0 := a0
  have a1 : DataW.trod enc Tryz.prog w base spare held m 3 [v1] = some u1 := a1
  have a2 : DataW.trod enc Tryz.prog w base spare held m 3 [v2] = some u2 := a2
  obtain ⟨n0, rfl⟩ := int_one a0
  obtain ⟨n1, rfl⟩ := int_one a1
  obtain ⟨n2, rfl⟩ := int_one a2
  obtain ⟨n3, rfl⟩ := int_one g1
  exact ⟨⟨n0, n1, n2, n3⟩, rfl⟩
theorem flat_rows {l : List Row} : ∀ {xs : List Value}, Flat (fun (r : Row) cs => cs = r.cells) 4 l xs → xs = rcells l := by
  induction l with
  | nil => intro xs h; exact h
  | cons r l ih =>
    rintro xs ⟨cs, ys, rfl, _, hr, ht⟩
    have e := ih ht
    have hr' : cs = r.cells := hr
    rw [e, hr']
    unfold rcells
    rw [List.map_cons, List.flatten_cons]
theorem rows_open {fuel : Nat} {v : Value} {x : DataW H × List MemPlace} (h : DataW.trod enc Tryz.prog w base spare held fuel 27 [v] = some x) : ∃ A c l, v = .slice A l.length c ∧ l.length ≤ maxLen ∧ Go.Proofs.YtgabidgpngiecaaGreat.RowsIn w.heap.size w A l := by
  obtain ⟨A, n, c, l, rfl, hc, hm, hr⟩ := trod_recs (R := fun _ (r : Row) cs => cs = r.cells) Tryz.underlying27 rfl cells_row (by omega) (fun _ _ _ hl h => row_open hl h) h
  have hn := Recs.len (by omega) hr
  obtain ⟨xs, h1, h2⟩ := hr
  obtain rfl := flat_rows h2
  subst hn
  exact ⟨A, c, l, rfl, Nat.le_trans hc hm, h1⟩
theorem u8_open {fuel : Nat} {v : Value} {x : DataW H × List MemPlace} (h : DataW.trod enc Tryz.prog w base spare held fuel 5 [v] = some x) : ∃ n : Nat, v = .int .u8 (n : Nat) ∧ n < 256 := by
  obtain ⟨n, e, _, hw⟩ := DataW.trod_int Tryz.underlying5 h
  simp at e
  subst e
  have hb := bounds_u8 hw
  obtain ⟨k, rfl⟩ : ∃ k : Nat, n = (k : Nat) := ⟨n.toNat, by omega⟩
  exact ⟨k, rfl, by omega⟩
end
end Go.Proofs.YtgabidgpngiecaaGreatOpen

namespace Go.Proofs.YtgabidgpngiecaaGreatOpen
open Go.RowKit Go.Proofs.YtgabidgpngiecaaGreatKit Go.Proofs.YtgabidgpngiecaaGreatPlain Go.Proofs.YtgabidgpngiecaaGreat Go.ChangeShapes Go.WideShapes Go.ChangeAt Go.Deep

theorem okWide_array {P : Program} {w : World} {r : Reach} {base : Nat} {t e : TypeId} {n : Nat} {v : Value} (ht : P.underlying t = some (.array n e)) (h : Value.okWide P w r base t v) : ∃ cs, v = .agg cs ∧ cs.size = P.cellsOf t := by
  simp only [Value.okWide, ht] at h
  obtain ⟨cs, h1, h2, _⟩ := h
  exact ⟨cs, h1, h2⟩
section
variable {H : Type} {enc : TypeId × Value → H} {w : World} {base : Nat} {spare : Nat → Bool} {held : Bool}
theorem list3 {cs : List Value} (h : cs.length = 3) : ∃ a b c, cs = [a, b, c] := by
  match cs, h with
  | [a, b, c], _ => exact ⟨a, b, c, rfl⟩
set_option maxRecDepth 100000 in
theorem pt_open {fuel : Nat} {cs : Array Value} {x : DataW H × List MemPlace} (hl : cs.size = 3) (h : DataW.trod enc Tryz.prog w base spare held fuel 28 cs.toList = some x) : ∃ r : Row, (.agg cs : Value) = ptV r := by
  obtain ⟨v0, v1, v2, e⟩ := list3 (cs := cs.toList) (by simpa using hl)
  rw [e] at h
  obtain ⟨zs, m, _, _, _, hz, ha⟩ := DataW.trod_array Tryz.underlying28 h
  have a0 : DataW.trod enc Tryz.prog w base spare held m 3 ((([v0, v1, v2] : List Value).drop (0 * Tryz.prog.cellsOf 3)).take (Tryz.prog.cellsOf 3)) = zs[0]? := ha 0 (by omega)
  simp only [cells_int] at a0
  have a1 : DataW.trod enc Tryz.prog w base spare held m 3 ((([v0, v1, v2] : List Value).drop (1 * Tryz.prog.cellsOf 3)).take (Tryz.prog.cellsOf 3)) = zs[1]? := ha 1 (by omega)
  simp only [cells_int] at a1
  have a2 : DataW.trod enc Tryz.prog w base spare held m 3 ((([v0, v1, v2] : List Value).drop (2 * Tryz.prog.cellsOf 3)).take (Tryz.prog.cellsOf 3)) = zs[2]? := ha 2 (by omega)
  simp only [cells_int] at a2
  obtain ⟨u0, f0⟩ := some_of (l := zs) (i := 0) (by omega)
  obtain ⟨u1, f1⟩ := some_of (l := zs) (i := 1) (by omega)
  obtain ⟨u2, f2⟩ := some_of (l := zs) (i := 2) (by omega)
  rw [f0] at a0
  rw [f1] at a1
  rw [f2] at a2
  have a0 : DataW.trod enc Tryz.prog w base spare held m 3 [v0] = some u0 := a0
  have a1 : DataW.trod enc Tryz.prog w base spare held m 3 [v1] = some u1 := a1
  have a2 : DataW.trod enc Tryz.prog w base spare held m 3 [v2] = some u2 := a2
  obtain ⟨n0, rfl⟩ := int_one a0
  obtain ⟨n1, rfl⟩ := int_one a1
  obtain ⟨n2, rfl⟩ := int_one a2
  refine ⟨⟨n0, n1, n2, 0⟩, ?_⟩
  unfold ptV
  rw [← Array.toArray_toList (xs := cs), e]
end
end Go.Proofs.YtgabidgpngiecaaGreatOpen
