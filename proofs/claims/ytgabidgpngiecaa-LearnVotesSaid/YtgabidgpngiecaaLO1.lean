/- Arguments opened: points, numbers of 16 bits. Conditions: none. -/
import Derived.Test.YtgabidgpngiecaaLO0
import Derived.Test.YtgabidgpngiecaaLV0
namespace Go.Proofs.YtgabidgpngiecaaOpen
open Go.RowKit Go.Proofs.YtgabidgpngiecaaKit Go.Proofs.YtgabidgpngiecaaPlain Go.Proofs.Ytgabidgpngiecaa Go.ChangeShapes Go.WideShapes Go.ChangeAt Go.Deep

theorem okWide_array {P : Program} {w : World} {r : Reach} {base : Nat} {t e : TypeId} {n : Nat} {v : Value} (ht : P.underlying t = some (.array n e)) (h : Value.okWide P w r base t v) : ∃ cs, v = .agg cs ∧ cs.size = P.cellsOf t := by
  simp only [Value.okWide, ht] at h
  obtain ⟨cs, h1, h2, _⟩ := h
  exact ⟨cs, h1, h2⟩
section
variable {H : Type} {enc : TypeId × Value → H} {w : World} {base : Nat} {spare : Nat → Bool} {held : Bool}
theorem list3 {cs : List Value} (h : cs.length = 3) : ∃ a b c, cs = [a, b, c] := by
  match cs, h with
  | [a, b, c], _ => exact ⟨a, b, c, rfl⟩
set_option maxRecDepth 100000 in
theorem pt_open {fuel : Nat} {cs : Array Value} {x : DataW H × List MemPlace} (hl : cs.size = 3) (h : DataW.trod enc Try.prog w base spare held fuel 31 cs.toList = some x) : ∃ r : Row, (.agg cs : Value) = ptV r := by
  obtain ⟨v0, v1, v2, e⟩ := list3 (cs := cs.toList) (by simpa using hl)
  rw [e] at h
  obtain ⟨zs, m, _, _, _, hz, ha⟩ := DataW.trod_array Try.underlying31 h
  have a0 : DataW.trod enc Try.prog w base spare held m 3 ((([v0, v1, v2] : List Value).drop (0 * Try.prog.cellsOf 3)).take (Try.prog.cellsOf 3)) = zs[0]? := ha 0 (by omega)
  simp only [cells_int] at a0
  have a1 : DataW.trod enc Try.prog w base spare held m 3 ((([v0, v1, v2] : List Value).drop (1 * Try.prog.cellsOf 3)).take (Try.prog.cellsOf 3)) = zs[1]? := ha 1 (by omega)
  simp only [cells_int] at a1
  have a2 : DataW.trod enc Try.prog w base spare held m 3 ((([v0, v1, v2] : List Value).drop (2 * Try.prog.cellsOf 3)).take (Try.prog.cellsOf 3)) = zs[2]? := ha 2 (by omega)
  simp only [cells_int] at a2
  obtain ⟨u0, f0⟩ := some_of (l := zs) (i := 0) (by omega)
  obtain ⟨u1, f1⟩ := some_of (l := zs) (i := 1) (by omega)
  obtain ⟨u2, f2⟩ := some_of (l := zs) (i := 2) (by omega)
  rw [f0] at a0
  rw [f1] at a1
  rw [f2] at a2
  have a0 : DataW.trod enc Try.prog w base spare held m 3 [v0] = some u0 := a0
  have a1 : DataW.trod enc Try.prog w base spare held m 3 [v1] = some u1 := a1
  have a2 : DataW.trod enc Try.prog w base spare held m 3 [v2] = some u2 := a2
  obtain ⟨n0, rfl⟩ := int_one a0
  obtain ⟨n1, rfl⟩ := int_one a1
  obtain ⟨n2, rfl⟩ := int_one a2
  refine ⟨⟨n0, n1, n2, 0⟩, ?_⟩
  unfold ptV
  rw [← Array.toArray_toList (xs := cs), e]
theorem u16_open {fuel : Nat} {v : Value} {x : DataW H × List MemPlace} (h : DataW.trod enc Try.prog w base spare held fuel 45 [v] = some x) : ∃ n : Nat, v = .int .u16 (n : Nat) ∧ n < 65536 := by
  obtain ⟨n, e, _, hw⟩ := DataW.trod_int Try.underlying45 h
  simp at e
  subst e
  have hb := bounds_u16 hw
  obtain ⟨k, rfl⟩ : ∃ k : Nat, n = (k : Nat) := ⟨n.toNat, by omega⟩
  exact ⟨k, rfl, by omega⟩
end
end Go.Proofs.YtgabidgpngiecaaOpen
