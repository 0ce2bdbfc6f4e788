/- What bestCut computes, and what it holds in memory. Conditions: none. -/
import Derived.Test.YtgabidgpngiecaaLT2
import Derived.Test.YtgabidgpngiecaaLT3
namespace Go.Proofs.Ytgabidgpngiecaa
open Go.RowKit Go.Proofs.YtgabidgpngiecaaKit Go.Proofs.YtgabidgpngiecaaPlain

/-- The best cut so far. -/
structure Cut where
  col : Nat
  cut : Int
  num : Int
  den : Int
  ok : Bool
/-- The worth of a cut of rows. -/
def numAt (L : List (Row × Nat)) (c : Nat) (x : Int) : Int := wNum (cnt8 (expand (lowL c x L))) (cnt8 (expand (highL c x L)))
def denAt (L : List (Row × Nat)) (c : Nat) (x : Int) : Int := wDen (cnt8 (expand (lowL c x L))) (cnt8 (expand (highL c x L)))
def cutStep (L : List (Row × Nat)) (c : Nat) (s : Cut) (x : Int) : Cut :=
  if s.ok = false ∨ s.num * denAt L c x < numAt L c x * s.den then ⟨c, x, numAt L c x, denAt L c x, true⟩ else s
/-- The numbers of a column in order, each once. -/
def colL (c : Nat) (L : List (Row × Nat)) : List Int := Lib.compact (isrt (L.map fun p => p.1.x c))
def bestIn (L : List (Row × Nat)) (c : Nat) (s : Cut) : Cut := (colL c L).dropLast.foldl (cutStep L c) s
def bestTo (L : List (Row × Nat)) : Nat → Cut
  | 0 => ⟨0, 0, 0, 0, false⟩
  | k + 1 => bestIn L k (bestTo L k)
theorem expand_low {c : Nat} {x : Int} {L : List (Row × Nat)} : (expand (lowL c x L)).length + (expand (highL c x L)).length = (expand L).length := by
  induction L with
  | nil => rfl
  | cons p L ih =>
    rw [expand_cons, List.length_append, ← ih]
    by_cases h : p.1.x c ≤ x
    · have e1 : lowL c x (p :: L) = p :: lowL c x L := by simp [lowL, h]
      have e2 : highL c x (p :: L) = highL c x L := by simp [highL, h]
      rw [e1, e2, expand_cons, List.length_append]
      omega
    · have e1 : lowL c x (p :: L) = lowL c x L := by simp [lowL, h]
      have e2 : highL c x (p :: L) = p :: highL c x L := by simp [highL, h]
      rw [e1, e2, expand_cons, List.length_append]
      omega
theorem worth_bd {a b : Nat → Nat} (ha : ∀ i, i < 8 → a i ≤ 1000) (hb : ∀ i, i < 8 → b i ≤ 1000) : 0 ≤ wNum a b ∧ wNum a b ≤ 128000000000 ∧ 0 ≤ wDen a b ∧ wDen a b ≤ 64000000 := by
  have h1 := sqC_bd ha 8 (Nat.le_refl _)
  have h2 := sqC_bd hb 8 (Nat.le_refl _)
  have h3 := totC_bd ha 8 (Nat.le_refl _)
  have h4 := totC_bd hb 8 (Nat.le_refl _)
  have m1 := mul_in (X := 8000000) (Y := 8000) h1.1 (by omega) h4.1 (by omega)
  have m2 := mul_in (X := 8000000) (Y := 8000) h2.1 (by omega) h3.1 (by omega)
  have m3 := mul_in (X := 8000) (Y := 8000) h3.1 (by omega) h4.1 (by omega)
  unfold wNum wDen
  omega
theorem at_bd {L : List (Row × Nat)} (hl : (expand L).length ≤ 500) (c : Nat) (x : Int) : 0 ≤ numAt L c x ∧ numAt L c x ≤ 128000000000 ∧ 0 ≤ denAt L c x ∧ denAt L c x ≤ 64000000 := by
  have h := expand_low (c := c) (x := x) (L := L)
  exact worth_bd (cnt8_le (by omega)) (cnt8_le (by omega))
def CutBd (s : Cut) : Prop := s.col < 3 ∧ 0 ≤ s.num ∧ s.num ≤ 128000000000 ∧ 0 ≤ s.den ∧ s.den ≤ 64000000
theorem CutBd.step {L : List (Row × Nat)} {s : Cut} {c : Nat} (h : CutBd s) (hl : (expand L).length ≤ 500) (hc : c < 3) (x : Int) : CutBd (cutStep L c s x) := by
  unfold cutStep
  split
  · exact ⟨hc, at_bd hl c x⟩
  · exact h
/-- No product of two worths is too great. -/
theorem cut_fit {L : List (Row × Nat)} {s : Cut} (h : CutBd s) (hl : (expand L).length ≤ 500) (c : Nat) (x : Int) : IntKind.i64.wrap (numAt L c x * s.den) = numAt L c x * s.den ∧ IntKind.i64.wrap (s.num * denAt L c x) = s.num * denAt L c x := by
  have h2 := at_bd hl c x
  have m1 := mul_in h2.1 h2.2.1 h.2.2.2.1 h.2.2.2.2
  have m2 := mul_in h.2.1 h.2.2.1 h2.2.2.1 h2.2.2.2
  exact ⟨IntWalk.i64_in _ ⟨by omega, by omega⟩, IntWalk.i64_in _ ⟨by omega, by omega⟩⟩

/-- What bestCut holds: the rows, the numbers of a column. -/
structure CSt (B : Nat) (w W : World) (v : Value) (L : List (Row × Nat)) (xv : Value) (xs : List Int) : Prop where
  cn : Cnt B W v L
  oi : OI w.heap.size W xv xs
  kp : Keep No w W
  old : ∀ k, v.ownBlock = some k → k < w.heap.size
section
variable {B : Nat} {w W W' : World} {v xv xv' : Value} {L : List (Row × Nat)} {xs ys : List Int}
theorem CSt.new_ (h : CSt B w W v L xv xs) (hk : Keep No W W') : CSt B w W' v L xv xs := ⟨h.cn.keep hk (fun _ _ x => x), h.oi.keep hk (fun _ _ x => x), h.kp.trans hk (fun _ x => x.elim), h.old⟩
theorem CSt.nil (h : CSt B w W v L xv xs) : CSt B w W v L (.slice none 0 0) [] := ⟨h.cn, World.ownsRow_nil _ _ _ _, h.kp, h.old⟩
theorem CSt.push {x : Int} {o : Obj} (h : CSt B w W v L xv xs) (ho : W'.ownsRow w.heap.size 3 1 xv' (xs.length + 1) (intsV xs ++ [.int .i64 x])) (hg : (W.alloc o).grownBy W' xv.ownBlock) : CSt B w W' v L xv' (xs ++ [x]) := by
  have hk : Keep (fun k => xv.ownBlock = some k) W W' := ((Keep.refl _ W).alloc o).grown hg (fun k e => .inl e)
  refine ⟨h.cn.keep hk (fun k h1 h2 => ?_), ?_, h.kp.trans hk (fun k e => .inr (World.ownsRow.lt h.oi k e).1), h.old⟩
  · have := h.old k h1
    have := (World.ownsRow.lt h.oi k h2).1
    omega
  · unfold OI
    rw [← intsV_push, List.length_append]
    exact ho
theorem CSt.turn {g c n : Nat} (h : CSt B w W v L (.slice (some ⟨g, 0, none⟩) xs.length c) xs) (ho : OI w.heap.size W' (.slice (some ⟨g, 0, none⟩) n c) ys) (hk : Keep (fun b => b = g) W W') : CSt B w W' v L (.slice (some ⟨g, 0, none⟩) n c) ys := by
  have hge := (World.ownsRow.lt h.oi g rfl).1
  exact ⟨h.cn.keep hk (fun k h1 h2 => by have := h.old k h1; omega), ho, h.kp.trans hk (fun k e => .inr (by omega)), h.old⟩
end
end Go.Proofs.Ytgabidgpngiecaa
