/- Arguments opened: what reads as data reads as bytes, pairs, steps. Conditions: none. -/
import Derived.Test.YtdmckjojeddaaaaProg
import Derived.Test.YtdmckjojeddaaaaKit
import Derived.ProofKit
import Derived.OpenShut
import Derived.Lib.SmallJoins
import Derived.Deep.Slices
import Derived.Deep.Fields
namespace Go.Proofs.YtdmckjojeddaaaaOpen
open Go.RowKit Go.Proofs.YtdmckjojeddaaaaKit Go.ChangeShapes Go.WideShapes Go.ChangeAt Go.Deep

section
variable {H : Type} {enc : TypeId × Value → H} {P : Program} {w : World} {base : Nat} {spare : Nat → Bool} {held : Bool}

theorem trod_fields {t : TypeId} {fs : Array Field} {fuel : Nat} {cs : List Value} {x : DataW H × List MemPlace} (ht : P.underlying t = some (.struct fs)) (hone : oneCellFields P fs = true)
    (h : DataW.trod enc P w base spare held fuel t cs = some x) : cs.length = P.cellsOf t ∧ ∃ n, ∀ i f, fs[i]? = some f → i < cs.length → ∃ v y, cs[i]? = some v ∧ DataW.trod enc P w base spare held n f.type [v] = some y := by
  obtain ⟨xs, n, _, _, hl, hlen, hf⟩ := DataW.trod_struct ht h
  refine ⟨hl, n, fun i f hi hc => ?_⟩
  obtain ⟨e1, e2⟩ := hone_of hone i f hi
  have := hf i f hi
  rw [e1, e2] at this
  have hx : i < xs.length := by
    have := (Array.getElem?_eq_some_iff.1 hi).1
    omega
  refine ⟨cs[i], xs[i], List.getElem?_eq_getElem hc, ?_⟩
  rw [List.getElem?_eq_getElem hx] at this
  rw [← this, List.drop_eq_getElem_cons hc]
  rfl

theorem trod_u64 {t : TypeId} {fuel : Nat} {v : Value} {x : DataW H × List MemPlace} (ht : P.underlying t = some (.int .u64)) (h : DataW.trod enc P w base spare held fuel t [v] = some x) : ∃ n : Int, v = .int .u64 n ∧ 0 ≤ n ∧ n < 18446744073709551616 := by
  obtain ⟨n, e, _, hw⟩ := DataW.trod_int ht h
  simp at e
  subst e
  refine ⟨n, rfl, ?_⟩
  simp [Lit.wf, IntKind.min, IntKind.max, IntKind.signed, IntKind.bits] at hw
  omega
theorem trod_i64 {t : TypeId} {fuel : Nat} {v : Value} {x : DataW H × List MemPlace} (ht : P.underlying t = some (.int .i64)) (h : DataW.trod enc P w base spare held fuel t [v] = some x) : ∃ n : Int, v = .int .i64 n ∧ -9223372036854775808 ≤ n ∧ n ≤ 9223372036854775807 := by
  obtain ⟨n, e, _, hw⟩ := DataW.trod_int ht h
  simp at e
  subst e
  exact ⟨n, rfl, bounds_i64 hw⟩
theorem trod_bool_ {t : TypeId} {fuel : Nat} {v : Value} {x : DataW H × List MemPlace} (ht : P.underlying t = some .bool) (h : DataW.trod enc P w base spare held fuel t [v] = some x) : ∃ b : Bool, v = .bool b := by
  cases fuel with
  | zero => simp [DataW.trod] at h
  | succ n =>
    unfold DataW.trod at h
    rw [ht] at h
    split at h <;> simp_all

/-- A slice of bytes. -/
theorem trod_bytes {t e : TypeId} {fuel : Nat} {v : Value} {x : DataW H × List MemPlace} (ht : P.underlying t = some (.slice e)) (he : P.underlying e = some (.int .u8)) (hc : P.cellsOf e = 1) (_h5 : e = 5)
    (h : DataW.trod enc P w base spare held fuel t [v] = some x) : ∃ A n c bs, v = .slice A n c ∧ n ≤ c ∧ c ≤ maxLen ∧ Bytes w.heap.size w A n bs := by
  rcases open_ints ht he hc h with ⟨e, _⟩ | ⟨a, len, cap, zs, e, hb, hl, hm, hz, _, hcell, hwf⟩
  · simp at e; subst e
    exact ⟨none, 0, 0, [], rfl, Nat.le_refl _, Nat.zero_le _, Bytes.none_⟩
  · simp at e; subst e
    have hlz : len ≤ zs.length := by rw [hz]; split <;> omega
    refine ⟨some a, len, cap, (zs.take len).map (fun z => UInt8.ofNat z.toNat), rfl, hl, hm, ?_, fun hn => ⟨a, rfl, ?_, fun j u hu => ?_⟩⟩
    · simp [byteVs]; omega
    · have := hcell 0 (by omega)
      have hlt := World.block_lt_of_cell? _ _ this
      rw [block_of_add] at hlt
      exact Imm.old rfl hlt hlt
    · have hj : j < len := by
        have := (List.getElem?_eq_some_iff.1 hu).1
        simp [byteVs] at this; omega
      have hjz : j < zs.length := by omega
      rw [hcell j hjz]
      have hb := bounds_u8 (hwf zs[j] (List.getElem_mem hjz))
      simp [byteVs, List.getElem?_map, hj, List.getElem?_eq_getElem hjz] at hu
      rw [← hu]
      simp only [byteV, List.getD, List.getElem?_eq_getElem hjz, Option.getD_some]
      congr 2
      rw [UInt8.toNat_ofNat']
      omega

theorem recs_each {α : Type} {R : α → List Value → Prop} {size : Nat} {ad : Addr} (n : Nat)
    (h : ∀ i, i < n → ∃ x cs, R x cs ∧ cs.length = size ∧ ∀ j u, cs[j]? = some u → w.cell? (ad.add (i * size + j)) = some u) :
    ∃ l xs, xs.length = n * size ∧ Flat R size l xs ∧ ∀ j u, xs[j]? = some u → w.cell? (ad.add j) = some u := by
  induction n with
  | zero => exact ⟨[], [], by simp, Flat.nil, fun j u hu => by simp at hu⟩
  | succ n ih =>
    obtain ⟨l, xs, hl, hf, hc⟩ := ih (fun i hi => h i (by omega))
    obtain ⟨x, cs, hx, hcs, hcc⟩ := h n (by omega)
    refine ⟨l ++ [x], xs ++ cs, by rw [List.length_append, hl, hcs, Nat.succ_mul], hf.append (Flat.one hx hcs), fun j u hu => ?_⟩
    rcases Nat.lt_or_ge j xs.length with hj | hj
    · rw [List.getElem?_append_left hj] at hu; exact hc j u hu
    · rw [List.getElem?_append_right hj] at hu
      have := hcc _ u hu
      rwa [hl, show n * size + (j - n * size) = j by omega] at this

/-- A slice of records. -/
theorem trod_recs {α : Type} {R : World → α → List Value → Prop} {size : Nat} {t e : TypeId} {fuel : Nat} {v : Value} {x : DataW H × List MemPlace} (ht : P.underlying t = some (.slice e)) (he : mutTy e = false) (hs : P.cellsOf e = size) (hpos : 0 < size)
    (hel : ∀ n cs D, cs.length = size → DataW.trod enc P w base spare held n e cs = some D → ∃ s, R w s cs)
    (h : DataW.trod enc P w base spare held fuel t [v] = some x) : ∃ A n c l, v = .slice A n c ∧ n ≤ c ∧ c ≤ maxLen ∧ Recs w.heap.size e R size w A n l := by
  rcases open_slice ht h with ⟨e, _⟩ | ⟨a, len, cap, m, n, D, Pl, e, hb, hl, hm, hmm, _, hi⟩
  · simp at e; subst e
    exact ⟨none, 0, 0, [], rfl, Nat.le_refl _, Nat.zero_le _, [], Reads.none_, Flat.nil⟩
  · simp at e; subst e
    have hlm : len ≤ m := by rw [hmm]; split <;> omega
    rw [hs] at hi
    obtain ⟨l, xs, hlx, hf, hc⟩ := recs_each (w := w) (R := R w) (size := size) (ad := a) len (fun i hilt => by
      obtain ⟨cs, h1, h2⟩ := hi i (by omega)
      obtain ⟨_, h3, h4⟩ := World.cells?_some h1
      obtain ⟨s, hs'⟩ := hel _ _ _ h3 h2
      refine ⟨s, cs, hs', h3, fun j u hu => ?_⟩
      have hj := (List.getElem?_eq_some_iff.1 hu).1
      have := h4 j (by omega)
      rw [add_of_add] at this
      rw [this, hu])
    refine ⟨some a, len, cap, l, rfl, hl, hm, xs, ⟨hlx, fun hn => ⟨a, rfl, ?_, hc⟩⟩, hf⟩
    obtain ⟨cs, h1, _⟩ := hi 0 (by omega)
    have := World.cells?_block h1 hpos
    rw [block_of_add] at this
    exact Imm.old he this this
end

section
variable {H : Type} {enc : TypeId × Value → H} {w : World} {base : Nat} {spare : Nat → Bool} {held : Bool}
theorem one_u8 : Try.prog.cellsOf 5 = 1 := by kernel_rfl
theorem bytes_open {fuel : Nat} {v : Value} {x : DataW H × List MemPlace} (h : DataW.trod enc Try.prog w base spare held fuel 23 [v] = some x) : ∃ A n c bs, v = .slice A n c ∧ n ≤ c ∧ c ≤ maxLen ∧ Bytes w.heap.size w A n bs :=
  trod_bytes Try.underlying23 Try.underlying5 one_u8 rfl h

theorem cells_pair : Try.prog.cellsOf 82 = 2 := by kernel_rfl
theorem cells_side : Try.prog.cellsOf 29 = 4 := by kernel_rfl
theorem list2 {cs : List Value} (h : cs.length = 2) : ∃ a b, cs = [a, b] := by
  match cs, h with
  | [a, b], _ => exact ⟨a, b, rfl⟩
theorem list4 {cs : List Value} (h : cs.length = 4) : ∃ a b c d, cs = [a, b, c, d] := by
  match cs, h with
  | [a, b, c, d], _ => exact ⟨a, b, c, d, rfl⟩
theorem side_open {fuel : Nat} {cs : List Value} {x : DataW H × List MemPlace} (hl : cs.length = 4) (h : DataW.trod enc Try.prog w base spare held fuel 29 cs = some x) : ∃ s, SideR w.heap.size w s cs := by
  obtain ⟨v0, v1, v2, v3, rfl⟩ := list4 hl
  obtain ⟨_, n, hf⟩ := trod_fields Try.underlying29 (by kernel_rfl) h
  obtain ⟨_, y0, e0, h0⟩ := hf 0 _ rfl (by simp)
  obtain ⟨_, y1, e1, h1⟩ := hf 1 _ rfl (by simp)
  obtain ⟨_, y2, e2, h2⟩ := hf 2 _ rfl (by simp)
  obtain ⟨_, y3, e3, h3⟩ := hf 3 _ rfl (by simp)
  simp at e0 e1 e2 e3
  subst e0 e1 e2 e3
  obtain ⟨A, n1, c1, bs, rfl, hc1, _, hb1⟩ := bytes_open h0
  obtain ⟨B, n2, c2, cs, rfl, hc2, _, hb2⟩ := bytes_open h1
  obtain ⟨l, rfl, hl0, _⟩ := trod_u64 Try.underlying22 h2
  obtain ⟨r, rfl, hr0, _⟩ := trod_u64 Try.underlying22 h3
  obtain rfl := hb1.len
  obtain rfl := hb2.len
  exact ⟨⟨bs, cs, l, r⟩, A, c1, B, c2, rfl, hb1, hb2, hl0, hr0⟩
theorem pair_open {fuel : Nat} {cs : List Value} {x : DataW H × List MemPlace} (hl : cs.length = 2) (h : DataW.trod enc Try.prog w base spare held fuel 82 cs = some x) : ∃ s, PairR w.heap.size w s cs := by
  obtain ⟨v0, v1, rfl⟩ := list2 hl
  obtain ⟨_, n, hf⟩ := trod_fields Try.underlying82 (by kernel_rfl) h
  obtain ⟨_, y0, e0, h0⟩ := hf 0 _ rfl (by simp)
  obtain ⟨_, y1, e1, h1⟩ := hf 1 _ rfl (by simp)
  simp at e0 e1
  subst e0 e1
  obtain ⟨A, n1, c1, bs, rfl, hc1, _, hb1⟩ := bytes_open h0
  obtain ⟨B, n2, c2, cs, rfl, hc2, _, hb2⟩ := bytes_open h1
  obtain rfl := hb1.len
  obtain rfl := hb2.len
  exact ⟨(bs, cs), A, c1, B, c2, rfl, hb1, hb2, hc1, hc2⟩
theorem sides_open {fuel : Nat} {v : Value} {x : DataW H × List MemPlace} (h : DataW.trod enc Try.prog w base spare held fuel 24 [v] = some x) : ∃ A n c l, v = .slice A n c ∧ n ≤ c ∧ c ≤ maxLen ∧ Sides w.heap.size w A n l :=
  trod_recs (R := SideR w.heap.size) Try.underlying24 rfl cells_side (by omega) (fun _ _ _ hl h => side_open hl h) h
theorem pairs_open {fuel : Nat} {v : Value} {x : DataW H × List MemPlace} (h : DataW.trod enc Try.prog w base spare held fuel 35 [v] = some x) : ∃ A n c l, v = .slice A n c ∧ n ≤ c ∧ c ≤ maxLen ∧ Pairs w.heap.size w A n l :=
  trod_recs (R := PairR w.heap.size) Try.underlying35 rfl cells_pair (by omega) (fun _ _ _ hl h => pair_open hl h) h
theorem u64_open {fuel : Nat} {v : Value} {x : DataW H × List MemPlace} (h : DataW.trod enc Try.prog w base spare held fuel 22 [v] = some x) : ∃ n : Int, v = .int .u64 n ∧ 0 ≤ n ∧ n < 18446744073709551616 := trod_u64 Try.underlying22 h
theorem int_open {fuel : Nat} {v : Value} {x : DataW H × List MemPlace} (h : DataW.trod enc Try.prog w base spare held fuel 3 [v] = some x) : ∃ n : Int, v = .int .i64 n ∧ -9223372036854775808 ≤ n ∧ n ≤ 9223372036854775807 := trod_i64 Try.underlying3 h
theorem bool_open {fuel : Nat} {v : Value} {x : DataW H × List MemPlace} (h : DataW.trod enc Try.prog w base spare held fuel 4 [v] = some x) : ∃ b : Bool, v = .bool b := trod_bool_ Try.underlying4 h
end
end Go.Proofs.YtdmckjojeddaaaaOpen
