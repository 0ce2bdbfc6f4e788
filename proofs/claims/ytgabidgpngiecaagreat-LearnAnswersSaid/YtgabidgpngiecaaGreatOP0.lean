/- Operations as arguments, opened. Conditions: none. -/
import Derived.Test.YtgabidgpngiecaaGreatFU0
import Derived.Test.YtgabidgpngiecaaGreatLX0
namespace Go.Proofs.YtgabidgpngiecaaGreat
open Go.RowKit Go.Proofs.YtgabidgpngiecaaGreatKit Go.Proofs.YtgabidgpngiecaaGreatPlain

/-- An operation. -/
structure Opn where
  r : Row
  gone : Bool
def Opn.cells (o : Opn) : List Value := [.int .i64 o.r.a, .int .i64 o.r.b, .int .i64 o.r.c, .int .i64 o.r.l, .bool o.gone]
def ocells (l : List Opn) : List Value := (l.map Opn.cells).flatten
def OpsIn (base : Nat) (w : World) (A : Option Addr) (l : List Opn) : Prop := Reads base w 32 5 A l.length (ocells l)
theorem cells_opn : Tryz.prog.cellsOf 32 = 5 := by kernel_rfl
theorem cells_bool1 : Tryz.prog.cellsOf 4 = 1 := by kernel_rfl
theorem ocells_get : ∀ (l : List Opn) (k : Nat) (hk : k < l.length) (j : Nat) (u : Value), l[k].cells[j]? = some u → (ocells l)[k * 5 + j]? = some u
  | [], k, hk, _, _, _ => absurd hk (by simp)
  | q :: l, 0, _, j, u, hu => by
    unfold ocells
    rw [List.map_cons, List.flatten_cons, Nat.zero_mul, Nat.zero_add, List.getElem?_append_left]
    · exact hu
    · exact (List.getElem?_eq_some_iff.1 hu).1
  | q :: l, k + 1, hk, j, u, hu => by
    have ih := ocells_get l k (by simpa using hk) j u (by simpa using hu)
    unfold ocells at ih ⊢
    rw [List.map_cons, List.flatten_cons, List.getElem?_append_right (by rw [show q.cells.length = 5 from rfl]; omega), show q.cells.length = 5 from rfl, show (k + 1) * 5 + j - 5 = k * 5 + j from by omega]
    exact ih
theorem OpsIn.cells {base : Nat} {w : World} {A : Option Addr} {l : List Opn} (h : OpsIn base w A l) {k : Nat} (hk : k < l.length) : ∃ ad, A = some ad ∧ w.cell? (ad.add (k * 5)) = some (.int .i64 l[k].r.a) ∧ w.cell? ⟨(ad.add (k * 5)).block, (ad.add (k * 5)).off + 1, none⟩ = some (.int .i64 l[k].r.b) ∧ w.cell? ⟨(ad.add (k * 5)).block, (ad.add (k * 5)).off + 2, none⟩ = some (.int .i64 l[k].r.c) ∧
    w.cell? ⟨(ad.add (k * 5)).block, (ad.add (k * 5)).off + 3, none⟩ = some (.int .i64 l[k].r.l) ∧ w.cell? ⟨(ad.add (k * 5)).block, (ad.add (k * 5)).off + 4, none⟩ = some (.bool l[k].gone) := by
  obtain ⟨ad, hA, _, hc0⟩ := h.2 (by omega)
  have hc : ∀ j u, j < 5 → l[k].cells[j]? = some u → w.cell? (ad.add (k * 5 + j)) = some u := fun j u _ hu => hc0 _ u (ocells_get l k hk j u hu)
  refine ⟨ad, hA, hc 0 _ (by omega) rfl, ?_, ?_, ?_, ?_⟩
  · rw [add_field ad (k * 5) 1 (by omega)]; exact hc 1 _ (by omega) rfl
  · rw [add_field ad (k * 5) 2 (by omega)]; exact hc 2 _ (by omega) rfl
  · rw [add_field ad (k * 5) 3 (by omega)]; exact hc 3 _ (by omega) rfl
  · rw [add_field ad (k * 5) 4 (by omega)]; exact hc 4 _ (by omega) rfl
end Go.Proofs.YtgabidgpngiecaaGreat
namespace Go.Proofs.YtgabidgpngiecaaGreatOpen
open Go.RowKit Go.Proofs.YtgabidgpngiecaaGreatKit Go.Proofs.YtgabidgpngiecaaGreatPlain Go.Proofs.YtgabidgpngiecaaGreat Go.ChangeShapes Go.WideShapes Go.ChangeAt Go.Deep

section
variable {H : Type} {enc : TypeId × Value → H} {w : World} {base : Nat} {spare : Nat → Bool} {held : Bool}
theorem list5 {cs : List Value} (h : cs.length = 5) : ∃ a b c d e, cs = [a, b, c, d, e] := by
  match cs, h with
  | [a, b, c, d, e], _ => exact ⟨a, b, c, d, e, rfl⟩
theorem bool_one {fuel : Nat} {v : Value} {x : DataW H × List MemPlace} (h : DataW.trod enc Tryz.prog w base spare held fuel 4 [v] = some x) : ∃ b : Bool, v = .bool b := by
  obtain ⟨n, e, _⟩ := DataW.trod_bool Tryz.underlying4 h
  simp at e
  exact ⟨n, e⟩
set_option maxRecDepth 100000 in
theorem opn_open {fuel : Nat} {cs : List Value} {x : DataW H × List MemPlace} (hl : cs.length = 5) (h : DataW.trod enc Tryz.prog w base spare held fuel 32 cs = some x) : ∃ q : Opn, cs = q.cells := by
  obtain ⟨v0, v1, v2, v3, v4, rfl⟩ := list5 hl
  obtain ⟨xs, n, _, _, _, hx, hf⟩ := DataW.trod_struct Tryz.underlying32 h
  have g0 : DataW.trod enc Tryz.prog w base spare held n 30 ((([v0, v1, v2, v3, v4] : List Value).drop 0).take (Tryz.prog.cellsOf 30)) = xs[0]? := hf 0 _ rfl
  have g1 : DataW.trod enc Tryz.prog w base spare held n 4 ((([v0, v1, v2, v3, v4] : List Value).drop 4).take (Tryz.prog.cellsOf 4)) = xs[1]? := hf 1 _ rfl
  obtain ⟨y0, e0⟩ := some_of (l := xs) (i := 0) (by rw [hx]; decide)
  obtain ⟨y1, e1⟩ := some_of (l := xs) (i := 1) (by rw [hx]; decide)
  rw [e0] at g0
  rw [e1] at g1
  rw [cells_row, show (([v0, v1, v2, v3, v4] : List Value).drop 0).take 4 = [v0, v1, v2, v3] from rfl] at g0
  rw [cells_bool1] at g1
  have g1 : DataW.trod enc Tryz.prog w base spare held n 4 [v4] = some y1 := g1
  obtain ⟨r, er⟩ := row_open rfl g0
  obtain ⟨b, rfl⟩ := bool_one g1
  unfold Row.cells at er
  injection er with z0 er
  injection er with z1 er
  injection er with z2 er
  injection er with z3 er
  subst z0 z1 z2 z3
  exact ⟨⟨r, b⟩, rfl⟩
theorem flat_ops {l : List Opn} : ∀ {xs : List Value}, Flat (fun (q : Opn) cs => cs = q.cells) 5 l xs → xs = ocells l := by
  induction l with
  | nil => intro xs h; exact h
  | cons r l ih =>
    rintro xs ⟨cs, ys, rfl, _, hr, ht⟩
    have e := ih ht
    have hr' : cs = r.cells := hr
    rw [e, hr']
    unfold ocells
    rw [List.map_cons, List.flatten_cons]
theorem ops_open {fuel : Nat} {v : Value} {x : DataW H × List MemPlace} (h : DataW.trod enc Tryz.prog w base spare held fuel 22 [v] = some x) : ∃ A c l, v = .slice A l.length c ∧ Go.Proofs.YtgabidgpngiecaaGreat.OpsIn w.heap.size w A l := by
  obtain ⟨A, n, c, l, rfl, _, _, hr⟩ := trod_recs (R := fun _ (q : Opn) cs => cs = q.cells) Tryz.underlying22 rfl cells_opn (by omega) (fun _ _ _ hl h => opn_open hl h) h
  have hn := Recs.len (by omega) hr
  obtain ⟨xs, h1, h2⟩ := hr
  obtain rfl := flat_ops h2
  subst hn
  exact ⟨A, c, l, rfl, h1⟩
end
end Go.Proofs.YtgabidgpngiecaaGreatOpen

namespace Go.Proofs.YtgabidgpngiecaaGreat
open Go.RowKit Go.Proofs.YtgabidgpngiecaaGreatKit Go.Proofs.YtgabidgpngiecaaGreatPlain

theorem unlL_length (l : List Row) (r : Row) : (unlL l r).length ≤ l.length := by
  unfold unlL
  split
  · exact List.length_erase_le
  · exact Nat.le_refl _
end Go.Proofs.YtgabidgpngiecaaGreat
