/- Words of memory, continued: slices of structs. Conditions: none. -/
import Derived.Test.YtdmckjojeddaaaaKit
namespace Go.Proofs.YtdmckjojeddaaaaKit
open Go.RowKit

/-- The cells xs are those of the records l, one behind another. -/
def Flat {α : Type} (R : α → List Value → Prop) (size : Nat) : List α → List Value → Prop
  | [], xs => xs = []
  | x :: l, xs => ∃ cs ys, xs = cs ++ ys ∧ cs.length = size ∧ R x cs ∧ Flat R size l ys

section
variable {α : Type} {R R' : α → List Value → Prop} {size : Nat} {l l' : List α} {xs ys : List Value}
theorem Flat.nil : Flat R size [] [] := rfl
theorem Flat.len (h : Flat R size l xs) : xs.length = l.length * size := by
  induction l generalizing xs with
  | nil => rw [show xs = [] from h]; simp
  | cons x l ih =>
    obtain ⟨cs, ys, rfl, hc, _, ht⟩ := h
    rw [List.length_append, hc, ih ht, List.length_cons, Nat.succ_mul]; omega
theorem Flat.mono (h : Flat R size l xs) (hr : ∀ x cs, R x cs → R' x cs) : Flat R' size l xs := by
  induction l generalizing xs with
  | nil => exact h
  | cons x l ih =>
    obtain ⟨cs, ys, e, hc, hx, ht⟩ := h
    exact ⟨cs, ys, e, hc, hr _ _ hx, ih ht⟩
theorem Flat.append (h : Flat R size l xs) (k : Flat R size l' ys) : Flat R size (l ++ l') (xs ++ ys) := by
  induction l generalizing xs with
  | nil => rw [show xs = [] from h]; exact k
  | cons x l ih =>
    obtain ⟨cs, zs, rfl, hc, hx, ht⟩ := h
    exact ⟨cs, zs ++ ys, by rw [List.append_assoc], hc, hx, ih ht⟩
theorem Flat.one {x : α} {cs : List Value} (h : R x cs) (hc : cs.length = size) : Flat R size [x] cs := ⟨cs, [], by simp, hc, h, rfl⟩
theorem Flat.get (h : Flat R size l xs) {k : Nat} {x : α} (hk : l[k]? = some x) : ∃ cs, R x cs ∧ cs.length = size ∧ ∀ j u, cs[j]? = some u → xs[k * size + j]? = some u := by
  induction l generalizing xs k with
  | nil => simp at hk
  | cons y l ih =>
    obtain ⟨cs, zs, rfl, hc, hx, ht⟩ := h
    cases k with
    | zero =>
      simp at hk; subst hk
      refine ⟨cs, hx, hc, fun j u hu => ?_⟩
      have : j < cs.length := (List.getElem?_eq_some_iff.1 hu).1
      rw [Nat.zero_mul, Nat.zero_add, List.getElem?_append_left this, hu]
    | succ k =>
      obtain ⟨cs', hx', hc', hg⟩ := ih ht (k := k) (by simpa using hk)
      refine ⟨cs', hx', hc', fun j u hu => ?_⟩
      rw [Nat.succ_mul, List.getElem?_append_right (by omega), hc, show k * size + size + j - size = k * size + j from by omega]
      exact hg j u hu
theorem Flat.drop (h : Flat R size l xs) (k : Nat) : Flat R size (l.drop k) (xs.drop (k * size)) := by
  induction k generalizing l xs with
  | zero => simpa using h
  | succ k ih =>
    cases l with
    | nil => rw [show xs = [] from h]; simp [Flat]
    | cons x l =>
      obtain ⟨cs, ys, rfl, hc, hx, ht⟩ := h
      have e : (cs ++ ys).drop ((k + 1) * size) = ys.drop (k * size) := by
        rw [List.drop_append, List.drop_of_length_le (by rw [Nat.succ_mul]; omega), List.nil_append]
        congr 1
        rw [Nat.succ_mul]; omega
      rw [e]
      exact ih ht
theorem Flat.take (h : Flat R size l xs) (k : Nat) : Flat R size (l.take k) (xs.take (k * size)) := by
  induction k generalizing l xs with
  | zero => simp [Flat]
  | succ k ih =>
    cases l with
    | nil => rw [show xs = [] from h]; simp [Flat]
    | cons x l =>
      obtain ⟨cs, ys, rfl, hc, hx, ht⟩ := h
      refine ⟨cs, ys.take (k * size), ?_, hc, hx, ih ht⟩
      rw [Nat.succ_mul, Nat.add_comm, ← hc, List.take_append, List.take_of_length_le (by omega)]
      congr 2
      omega
end

/-- The slice reads as these records. -/
def Recs {α : Type} (base e : Nat) (R : World → α → List Value → Prop) (size : Nat) (w : World) (A : Option Addr) (n : Nat) (l : List α) : Prop :=
  ∃ xs, Reads base w e size A n xs ∧ Flat (R w) size l xs

theorem Recs.len {α : Type} {base e : Nat} {R : World → α → List Value → Prop} {size : Nat} {w : World} {A : Option Addr} {n : Nat} {l : List α} (hs : 0 < size) (h : Recs base e R size w A n l) : l.length = n := by
  obtain ⟨xs, hr, hf⟩ := h
  have e := hr.1
  rw [hf.len] at e
  exact Nat.eq_of_mul_eq_mul_right hs e
theorem Recs.at_ {α : Type} {base e : Nat} {R : World → α → List Value → Prop} {size : Nat} {w : World} {A : Option Addr} {n : Nat} {l : List α} (hs : 0 < size) (h : Recs base e R size w A n l) {k : Nat} (hk : k < l.length) :
    ∃ ad cs, A = some ad ∧ Imm base e w ad.block ∧ R w l[k] cs ∧ cs.length = size ∧ ∀ j u, cs[j]? = some u → w.cell? (ad.add (k * size + j)) = some u := by
  have hn := h.len hs
  obtain ⟨xs, hr, hf⟩ := h
  obtain ⟨ad, e, hb, hc⟩ := hr.2 (by omega)
  obtain ⟨cs, hx, hl, hg⟩ := hf.get (List.getElem?_eq_getElem hk)
  exact ⟨ad, cs, e, hb, hx, hl, fun j u hu => hc _ u (hg j u hu)⟩
theorem Recs.keep {α : Type} {base e : Nat} {R : World → α → List Value → Prop} {size : Nat} {w w' : World} {A : Option Addr} {n : Nat} {l : List α} {S : Nat → Prop} (h : Recs base e R size w A n l) (hk : Keep S w w') (hs : ∀ b, S b → Mut base w b) (hR : ∀ x cs, R w x cs → R w' x cs) : Recs base e R size w' A n l := by
  obtain ⟨xs, hr, hf⟩ := h
  exact ⟨xs, hr.keep hk hs, hf.mono hR⟩

/-- A field of a record: the walk's spelling of its address. -/
theorem add_field (a : Addr) (i j : Nat) (hj : 0 < j) : (⟨(a.add i).block, (a.add i).off + j, none⟩ : Addr) = a.add (i + j) := by
  unfold Addr.add
  by_cases hi : i = 0
  · simp [hi, show j ≠ 0 by omega]
  · simp [hi, show i + j ≠ 0 by omega]; omega

/-! ### Pairs and steps -/
abbrev Pair := List UInt8 × List UInt8
structure Side where
  key : List UInt8
  value : List UInt8
  left : Int
  right : Int
def PairR (base : Nat) (w : World) (p : Pair) (cs : List Value) : Prop :=
  ∃ A c B d, cs = [.slice A p.1.length c, .slice B p.2.length d] ∧ Bytes base w A p.1.length p.1 ∧ Bytes base w B p.2.length p.2 ∧ p.1.length ≤ c ∧ p.2.length ≤ d
def SideR (base : Nat) (w : World) (p : Side) (cs : List Value) : Prop :=
  ∃ A c B d, cs = [.slice A p.key.length c, .slice B p.value.length d, .int .u64 p.left, .int .u64 p.right] ∧ Bytes base w A p.key.length p.key ∧ Bytes base w B p.value.length p.value ∧ 0 ≤ p.left ∧ 0 ≤ p.right
abbrev Pairs (base : Nat) := Recs base 82 (PairR base) 2
abbrev Sides (base : Nat) := Recs base 29 (SideR base) 4
section
variable {base : Nat} {w w' : World} {A : Option Addr} {n : Nat} {S : Nat → Prop}
theorem PairR.keep {p : Pair} {cs : List Value} (h : PairR base w p cs) (hk : Keep S w w') (hs : ∀ b, S b → Mut base w b) : PairR base w' p cs := by
  obtain ⟨A, c, B, d, e, h1, h2, h3⟩ := h
  exact ⟨A, c, B, d, e, h1.keep hk hs, h2.keep hk hs, h3⟩
theorem SideR.keep {p : Side} {cs : List Value} (h : SideR base w p cs) (hk : Keep S w w') (hs : ∀ b, S b → Mut base w b) : SideR base w' p cs := by
  obtain ⟨A, c, B, d, e, h1, h2, h3⟩ := h
  exact ⟨A, c, B, d, e, h1.keep hk hs, h2.keep hk hs, h3⟩
theorem PairR.off {p : Pair} {cs : List Value} (h : PairR base w p cs) (hk : Keep S w w') (hs : Off base 5 w S) : PairR base w' p cs := by
  obtain ⟨A, c, B, d, e, h1, h2, h3⟩ := h
  exact ⟨A, c, B, d, e, h1.off hk hs, h2.off hk hs, h3⟩
theorem Pairs.keep {l : List Pair} (h : Pairs base w A n l) (hk : Keep S w w') (hs : ∀ b, S b → Mut base w b) : Pairs base w' A n l := Recs.keep h hk hs fun _ _ hx => hx.keep hk hs
theorem Sides.keep {l : List Side} (h : Sides base w A n l) (hk : Keep S w w') (hs : ∀ b, S b → Mut base w b) : Sides base w' A n l := Recs.keep h hk hs fun _ _ hx => hx.keep hk hs
theorem Pairs.new_ {l : List Pair} (h : Pairs base w A n l) (hk : Keep No w w') : Pairs base w' A n l := h.keep hk (fun _ x => x.elim)
theorem Sides.new_ {l : List Side} (h : Sides base w A n l) (hk : Keep No w w') : Sides base w' A n l := h.keep hk (fun _ x => x.elim)
theorem Pairs.at_ {l : List Pair} (h : Pairs base w A n l) {k : Nat} (hk : k < l.length) : ∃ ad A1 c1 A2 c2, A = some ad ∧ Imm base 82 w ad.block ∧
    w.cell? (ad.add (k * 2)) = some (.slice A1 l[k].1.length c1) ∧ w.cell? ⟨(ad.add (k * 2)).block, (ad.add (k * 2)).off + 1, none⟩ = some (.slice A2 l[k].2.length c2) ∧
    Bytes base w A1 l[k].1.length l[k].1 ∧ Bytes base w A2 l[k].2.length l[k].2 := by
  obtain ⟨ad, cs, e, hb, ⟨A1, c1, A2, c2, rfl, h1, h2, _, _⟩, _, hc⟩ := Recs.at_ (by omega) h hk
  exact ⟨ad, A1, c1, A2, c2, e, hb, hc 0 _ rfl, by rw [add_field _ _ 1 (by omega)]; exact hc 1 _ rfl, h1, h2⟩
theorem Sides.at_ {l : List Side} (h : Sides base w A n l) {k : Nat} (hk : k < l.length) : ∃ ad A1 c1 A2 c2, A = some ad ∧ Imm base 29 w ad.block ∧
    w.cell? (ad.add (k * 4)) = some (.slice A1 l[k].key.length c1) ∧ w.cell? ⟨(ad.add (k * 4)).block, (ad.add (k * 4)).off + 1, none⟩ = some (.slice A2 l[k].value.length c2) ∧
    w.cell? ⟨(ad.add (k * 4)).block, (ad.add (k * 4)).off + 2, none⟩ = some (.int .u64 l[k].left) ∧ w.cell? ⟨(ad.add (k * 4)).block, (ad.add (k * 4)).off + 3, none⟩ = some (.int .u64 l[k].right) ∧
    Bytes base w A1 l[k].key.length l[k].key ∧ Bytes base w A2 l[k].value.length l[k].value ∧ 0 ≤ l[k].left ∧ 0 ≤ l[k].right := by
  obtain ⟨ad, cs, e, hb, ⟨A1, c1, A2, c2, rfl, h1, h2, h3, h4⟩, _, hc⟩ := Recs.at_ (by omega) h hk
  exact ⟨ad, A1, c1, A2, c2, e, hb, hc 0 _ rfl, by rw [add_field _ _ 1 (by omega)]; exact hc 1 _ rfl, by rw [add_field _ _ 2 (by omega)]; exact hc 2 _ rfl, by rw [add_field _ _ 3 (by omega)]; exact hc 3 _ rfl, h1, h2, h3, h4⟩
end
end Go.Proofs.YtdmckjojeddaaaaKit
