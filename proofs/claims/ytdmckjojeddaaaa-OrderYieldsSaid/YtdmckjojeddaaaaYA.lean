/- OrderYields: under way. Conditions: none but that the arguments are read. -/
import Derived.Test.YtdmckjojeddaaaaMC
import Derived.Test.YtdmckjojeddaaaaW2
import Derived.Deep.DeepCutAuto
import Derived.LoopN
import Derived.Stop.RegionWithIn
import Derived.Sort.AtCallIn
import Derived.Sort.CutIn
namespace Go.Proofs.Ytdmckjojeddaaaa
open Go.RowKit Go.Proofs.YtdmckjojeddaaaaKit Go.Proofs.YtdmckjojeddaaaaPlain

/-! ### Plain -/
def yval (l : PairL) (k v : List UInt8) (i : Nat) : List UInt8 := match l[i]? with
  | none => v
  | some p => if p.1 = k then p.2 else v
def yat (l : PairL) (k v : List UInt8) : Nat → PairL
  | 0 => l
  | i + 1 => putL l k (yval l k v i)
theorem sorted_uniq {l : PairL} (h : Sorted l) {p q : List UInt8 × List UInt8} (hp : p ∈ l) (hq : q ∈ l) (e : p.1 = q.1) : p = q := by
  obtain ⟨i, hi, rfl⟩ := List.mem_iff_getElem.1 hp
  obtain ⟨j, hj, rfl⟩ := List.mem_iff_getElem.1 hq
  rcases Nat.lt_trichotomy i j with h1 | rfl | h1
  · exact absurd e (lt_ne (List.pairwise_iff_getElem.1 h i j hi hj h1))
  · rfl
  · exact absurd e.symm (lt_ne (List.pairwise_iff_getElem.1 h j i hj hi h1))
theorem yat_sorted {l : PairL} (h : Sorted l) (k v : List UInt8) (i : Nat) : Sorted (yat l k v i) := by
  cases i with
  | zero => exact h
  | succ i => exact putL_sorted h
theorem yat_mem {l : PairL} (h : Sorted l) (k v : List UInt8) (i : Nat) {p : List UInt8 × List UInt8} (hp : p.1 ≠ k) : p ∈ yat l k v i ↔ p ∈ l := by
  have key : ∀ x, p ∈ putL l k x ↔ p ∈ l := fun x => by
    rw [mem_put_iff h]
    exact ⟨fun h => h.elim (fun e => absurd (congrArg Prod.fst e) hp) (fun h => h.1), fun h => .inr ⟨h, hp⟩⟩
  cases i with
  | zero => rfl
  | succ i => exact key _
theorem yat_put {l : PairL} (h : Sorted l) (k v x : List UInt8) (i : Nat) : putL (yat l k v i) k x = putL l k x := by
  refine sorted_ext (putL_sorted (yat_sorted h k v i)) (putL_sorted h) fun p => ?_
  rw [mem_put_iff (yat_sorted h k v i), mem_put_iff h]
  by_cases hp : p.1 = k
  · simp [hp]
  · rw [yat_mem h k v i hp]
theorem yat_has {l : PairL} (h : Sorted l) (k v : List UInt8) {i : Nat} (hi : i < l.length) : hasL l[i].1 (putL l k v) = true := by
  rw [hasL_iff (putL_sorted h)]
  by_cases e : l[i].1 = k
  · exact ⟨(k, v), (mem_put_iff h).2 (.inl rfl), e.symm⟩
  · exact ⟨l[i], (mem_put_iff h).2 (.inr ⟨List.getElem_mem hi, e⟩), rfl⟩
theorem yat_round {l : PairL} (h : Sorted l) (k v : List UInt8) {i : Nat} (hi : i < l.length) : putL (dropL (putL l k v) l[i].1) l[i].1 l[i].2 = yat l k v (i + 1) := by
  have hm := List.getElem_mem hi
  have hd := dropL_sorted (k := l[i].1) (putL_sorted (k := k) (v := v) h)
  refine sorted_ext (putL_sorted hd) (yat_sorted h k v _) fun p => ?_
  rw [mem_put_iff hd, mem_drop_iff (putL_sorted h), mem_put_iff h]
  have he : yat l k v (i + 1) = putL l k (if l[i].1 = k then l[i].2 else v) := by rw [yat, yval, List.getElem?_eq_getElem hi]
  rw [he, mem_put_iff h]
  by_cases e : l[i].1 = k
  · rw [if_pos e, e]
    constructor
    · rintro (rfl | ⟨⟨rfl | ⟨h1, h2⟩, _⟩, h3⟩)
      · exact .inl rfl
      · exact absurd rfl h3
      · exact .inr ⟨h1, h2⟩
    · rintro (rfl | ⟨h1, h2⟩)
      · exact .inl rfl
      · exact .inr ⟨⟨.inr ⟨h1, h2⟩, h2⟩, h2⟩
  · rw [if_neg e]
    constructor
    · rintro (rfl | ⟨⟨rfl | ⟨h1, h2⟩, h4⟩, h3⟩)
      · exact .inr ⟨hm, e⟩
      · exact .inl rfl
      · exact .inr ⟨h1, h2⟩
    · rintro (rfl | ⟨h1, h2⟩)
      · exact .inr ⟨⟨.inl rfl, fun e2 => e e2.symm⟩, fun e2 => e e2.symm⟩
      · by_cases e2 : p.1 = l[i].1
        · exact .inl (sorted_uniq h h1 hm e2)
        · exact .inr ⟨⟨.inr ⟨h1, h2⟩, e2⟩, e2⟩
theorem yat_length (l : PairL) (k v : List UInt8) (i : Nat) : (yat l k v i).length ≤ l.length + 1 := by
  cases i with
  | zero => exact Nat.le_succ _
  | succ i => exact length_putL _ _ _
theorem yat_okay {l : PairL} (h : Okay l) {k v : List UInt8} (hk : keyOk k v) (i : Nat) : Okay (yat l k v i) := by
  cases i with
  | zero => exact h
  | succ i =>
    refine h.put ⟨hk.1, hk.2.1, ?_⟩
    unfold yval
    cases hx : l[i]? with
    | none => exact hk.2.2
    | some p =>
      have := h p (List.mem_of_getElem? hx)
      dsimp only
      split
      · exact this.2.2
      · exact hk.2.2

theorem results_cell1 {P : Program} {fn : Func} {p : Tmp} {ty : TypeId} (h : fn.results = #[.cell p ty]) (tmps : Array Value) (w : World) (a : Addr) (v : Value)
    (hp : tmps.getD p undef = .pointer (some a)) (hagg : (isAgg ty).run P w = .ok false w) (hc : w.cell? a = some v) : (results fn tmps).run P w = .ok v w := by
  have hp' : tmps[p]?.getD undef = .pointer (some a) := by simpa using hp
  simp [results, h, hp', asAddr, loadVar, Sem.run_bind, hagg, Result.andThen, go_sem, hc]
theorem blk_true {w : World} {b : Nat} {x : Value} (h : Blk w b 4 #[x]) (u : Value) : (w.setCell ⟨b, 0, none⟩ u).cell? ⟨b, 0, none⟩ = some u := by
  have := (h.set_ 0 u).cell 0
  simpa using this
/-- The cells of a block are as they were. -/
structure SameAt (b : Nat) (w0 w : World) : Prop where
  lt : b < w.heap.size
  eq : ∀ i, w.cell? ⟨b, i, none⟩ = w0.cell? ⟨b, i, none⟩
theorem SameAt.alloc {b : Nat} {w0 w : World} (h : SameAt b w0 w) (o : Obj) : SameAt b w0 (w.alloc o) := ⟨by simp; have := h.1; omega, fun i => (World.cell?_alloc_lt w o ⟨b, i, none⟩ h.1).trans (h.2 i)⟩
theorem SameAt.drew {b : Nat} {w0 w : World} (h : SameAt b w0 w) : SameAt b w0 w.drew := ⟨h.1, h.2⟩
theorem SameAt.set {b b2 i2 : Nat} {w0 w : World} (h : SameAt b w0 w) (hb : b ≠ b2) (u : Value) : SameAt b w0 (w.setCell ⟨b2, i2, none⟩ u) := ⟨by simp [World.setCell]; exact h.1, fun i => (far_block w ⟨b2, i2, none⟩ ⟨b, i, none⟩ u hb).trans (h.2 i)⟩

/-! ### What lies in memory -/
theorem blk_notMut {base : Nat} {w : World} {g : Nat} {t : TypeId} {cs : Array Value} (h : Blk w g t cs) (ht : mutTy t = false) : ¬ Mut base w g := by
  rintro ⟨_, cs', t', f, e, h2⟩
  rw [show w.heap[g]? = _ from h] at e
  injection e with e
  injection e with _ e
  subst e
  rw [ht] at h2
  cases h2
theorem own_notMut {base b0 e size n : Nat} {w : World} {v : Value} {xs : List Value} (h : w.ownsRow b0 e size v n xs) (ht : mutTy e = false) {k : Nat} (hk : v.ownBlock = some k) : ¬ Mut base w k := by
  rcases h.2 with ⟨rfl, _⟩ | ⟨g, cap, cur, rfl, _, h4, _⟩
  · simp [Value.ownBlock] at hk
  · simp [Value.ownBlock] at hk
    subst hk
    exact blk_notMut (show Blk w g e cur from h4) ht
theorem mut_noBytes {base : Nat} {w : World} {S : Nat → Prop} (hs : ∀ b, S b → Mut base w b) : NoBytes w S := fun b hb => by
  obtain ⟨_, cs, t, f, e, ht⟩ := hs b hb
  exact ⟨cs, t, f, e, fun e2 => by subst e2; cases ht⟩
theorem OwnPI.mutKeep {B base : Nat} {l : List Pair} {v : Value} {w w1 : World} {S : Nat → Prop} (h : OwnPI B l v w) (hk : Keep S w w1) (hs : ∀ b, S b → Mut base w b) : OwnPI B l v w1 := by
  obtain ⟨xs, h1, h2⟩ := h
  exact ⟨xs, own_keep h1 hk (fun k e hS => own_notMut h1 rfl e (hs k hS)), (h2.keep hk (mut_noBytes hs)).high hk.size⟩
theorem OwnPI.keepGe {B : Nat} {l : List Pair} {v : Value} {w w1 : World} {S : Nat → Prop} (h : OwnPI B l v w) (hk : Keep S w w1) (hs : ∀ b, B ≤ b → ¬ S b) : OwnPI B l v w1 := by
  obtain ⟨xs, h1, h2⟩ := h
  exact ⟨xs, own_keepGe h1 hk hs, (h2.keepGe hk hs).high hk.size⟩
theorem twin_two {w W1 W2 : World} {k v : List UInt8} {A B : Option Addr} {c d : Nat} (h1 : W1.ownsRow w.heap.size 5 1 (.slice A k.length c) k.length (byteVs k)) (k1 : Keep No w W1)
    (h2 : W2.ownsRow W1.heap.size 5 1 (.slice B v.length d) v.length (byteVs v)) (k2 : Keep No W1 W2) (hc : k.length ≤ c) (hd : v.length ≤ d) : Twin w k v A B c d W2 :=
  ⟨own_keep h1 k2 (fun _ _ x => x), ownsRow_weak h2 k1.size, fun x e e2 => by have := (World.ownsRow.lt h1 x e).2; have := (World.ownsRow.lt h2 x e2).1; omega, hc, hd, k1.trans k2 (fun _ x => x.elim)⟩
/-- A pair is appended to a row of the call's own. -/
theorem got_step {T : Nat} {W W2 : World} {l : List Pair} {v : Value} {k x : List UInt8} {A B : Option Addr} {c d : Nat} (h : OwnPI T l v W) (hT : T ≤ W.heap.size) (tw : Twin W k x A B c d W2) (hl : l.length ≤ 1000000) :
    ∃ v5 w5, (Builtin.append_ #[35, 35] 35 #[v, .slice (some ⟨W2.heap.size, 0, none⟩) 1 1]).run Try.prog (W2.alloc (.cells #[.slice A k.length c, .slice B x.length d] 82)) = .ok v5 w5 ∧
      OwnPI T (l ++ [(k, x)]) v5 w5 ∧ Keep (fun b => v.ownBlock = some b) W w5 := by
  obtain ⟨i0, hi0, hz0, hz1, hz2⟩ := info_parts info_pair
  obtain ⟨xs, h1, h2⟩ := h
  have k12 := tw.2.2.2.2.2
  have hown := (own_keep h1 k12 (fun _ _ x => x)).alloc (.cells #[.slice A k.length c, .slice B x.length d] 82)
  obtain ⟨v5, w5, hrun, ho5, hg5, _⟩ := run_append_any (P := Try.prog) (W2.alloc (.cells #[.slice A k.length c, .slice B x.length d] 82)) T 35 35 82 i0 _ 2 48 Try.underlying35 hi0 hz0 hz1 hz2 rfl (by omega) v l.length xs hown 0 (some ⟨W2.heap.size, 0, none⟩) 1 1
    [.slice A k.length c, .slice B x.length d] (rec_new (base := 0) (cs := [.slice A k.length c, .slice B x.length d]) rfl) (by simp [Value.oneCell']) (by simp only [maxLen]; omega) (by omega) (Nat.le_trans hT (Nat.le_trans k12.size (by simp)))
  exact ⟨v5, w5, hrun, OwnPI.push h1 h2 tw ho5 hg5, ((k12.mono (S' := fun b => v.ownBlock = some b) (fun _ x => x.elim)).alloc _).grown hg5 (fun k e => .inl e)⟩
end Go.Proofs.Ytdmckjojeddaaaa
