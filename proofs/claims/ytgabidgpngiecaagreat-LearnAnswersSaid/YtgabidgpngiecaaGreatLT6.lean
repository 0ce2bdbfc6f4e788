/- What learn's Tree computes. Conditions: none. -/
import Derived.Test.YtgabidgpngiecaaGreatLT4
import Derived.Test.YtgabidgpngiecaaGreatLP5
import Derived.Lib.SlicesCompact
namespace Go.Proofs.YtgabidgpngiecaaGreat
open Go.RowKit Go.Proofs.YtgabidgpngiecaaGreatKit Go.Proofs.YtgabidgpngiecaaGreatPlain

structure Br where
  col : Int
  cut : Int
  low : Int
  high : Int
  label : Int
  rows : Int
def Br.cells (b : Br) : List Value := [.int .i64 b.col, .int .i64 b.cut, .int .i64 b.low, .int .i64 b.high, .int .i64 b.label, .int .i64 b.rows]
/-- Whether rows are not parted further. -/
def leafL (left : Nat) (least : Int) (L : List (Row × Nat)) : Prop := left = 0 ∨ totC (cnt8 (expand L)) 8 < least ∨ PureC (cnt8 (expand L)) ∨ (bestTo L 3).ok = false
instance (left : Nat) (least : Int) (L : List (Row × Nat)) : Decidable (leafL left least L) := inferInstanceAs (Decidable (_ ∨ _ ∨ _ ∨ _))
def leafB (L : List (Row × Nat)) : Br := ⟨0, 0, -1, -1, mostC (cnt8 (expand L)) 8, totC (cnt8 (expand L)) 8⟩
/-- The branches of a tree whose root lies at the place at_. -/
def treeL (least : Int) : (left : Nat) → List (Row × Nat) → (at_ : Nat) → List Br
  | 0, L, _ => [leafB L]
  | left + 1, L, at_ =>
    if leafL (left + 1) least L then [leafB L]
    else
      let s := bestTo L 3
      let A := treeL least left (lowL s.col s.cut L) (at_ + 1)
      let B := treeL least left (highL s.col s.cut L) (at_ + 1 + A.length)
      ⟨s.col, s.cut, (at_ + 1 : Nat), (at_ + 1 + A.length : Nat), -1, totC (cnt8 (expand L)) 8⟩ :: (A ++ B)
theorem treeL_pos (least : Int) (left : Nat) (L : List (Row × Nat)) (at_ : Nat) : 0 < (treeL least left L at_).length := by
  cases left with
  | zero => simp [treeL]
  | succ left =>
    rw [treeL]
    split <;> simp
theorem treeL_len (least : Int) : ∀ (left : Nat) (L : List (Row × Nat)) (at_ : Nat), (treeL least left L at_).length + 1 ≤ 2 ^ (left + 1)
  | 0, _, _ => by simp [treeL]
  | left + 1, L, at_ => by
    have hp : 2 ≤ 2 ^ (left + 1 + 1) := by
      have := Nat.one_le_two_pow (n := left + 1)
      rw [Nat.pow_succ]; omega
    rw [treeL]
    split
    · simpa using hp
    · have h1 := treeL_len least left (lowL (bestTo L 3).col (bestTo L 3).cut L) (at_ + 1)
      have h2 := treeL_len least left (highL (bestTo L 3).col (bestTo L 3).cut L) (at_ + 1 + (treeL least left (lowL (bestTo L 3).col (bestTo L 3).cut L) (at_ + 1)).length)
      simp only [List.length_cons, List.length_append]
      rw [Nat.pow_succ]
      omega
theorem pure_nil : PureC (cnt8 (expand [])) := by
  intro i _
  simp [cnt8, expand, cntL, totC]
end Go.Proofs.YtgabidgpngiecaaGreat

namespace Go.Proofs.YtgabidgpngiecaaGreat
open Go.RowKit Go.Proofs.YtgabidgpngiecaaGreatKit Go.Proofs.YtgabidgpngiecaaGreatPlain

def bcells (l : List Br) : List Value := (l.map Br.cells).flatten
theorem bcells_length : ∀ l : List Br, (bcells l).length = l.length * 6
  | [] => rfl
  | b :: l => by
    have := bcells_length l
    unfold bcells at *
    rw [List.map_cons, List.flatten_cons, List.length_append, this, List.length_cons, show b.cells.length = 6 from rfl]
    omega
theorem bcells_push (l : List Br) (b : Br) : bcells l ++ b.cells = bcells (l ++ [b]) := by simp [bcells]
theorem bcells_append (l l' : List Br) : bcells (l ++ l') = bcells l ++ bcells l' := by simp [bcells]
/-- The slice v holds branches of the call's own. -/
def BOwn (B : Nat) (w : World) (v : Value) (l : List Br) : Prop := w.ownsRow B 69 6 v l.length (bcells l)
theorem BOwn.keep {B : Nat} {w w' : World} {v : Value} {l : List Br} {S : Nat → Prop} (h : BOwn B w v l) (hk : Keep S w w') (hs : ∀ k, v.ownBlock = some k → ¬ S k) : BOwn B w' v l := own_keep h hk hs
theorem info_branch : (Tryz.prog.info? 69).map (fun i => (i.zero, i.size, i.bytes)) = some (some (.agg #[.int .i64 0, .int .i64 0, .int .i64 0, .int .i64 0, .int .i64 0, .int .i64 0]), 6, 48) := by kernel_rfl
/-- A cell of a row of the call's own is written. -/
theorem own_set {w : World} {base e size n g c : Nat} {xs : List Value} (h : w.ownsRow base e size (.slice (some ⟨g, 0, none⟩) n c) n xs) (i : Nat) (u : Value) : (w.setCell ⟨g, i, none⟩ u).ownsRow base e size (.slice (some ⟨g, 0, none⟩) n c) n (xs.set i u) := by
  obtain ⟨h0, ⟨h1, _⟩ | ⟨g', cap, cur, h1, hB, hg, hn, hc, hcs, htake⟩⟩ := h
  · cases h1
  · injection h1 with h2 h3 h4
    injection h2 with h2
    injection h2 with h2
    subst h2 h4
    refine ⟨by rw [List.length_set]; exact h0, .inr ⟨g, c, cur.setIfInBounds i u, rfl, hB, Blk.set_ hg i u, hn, hc, by simpa using hcs, ?_⟩⟩
    rw [← htake, Array.toList_setIfInBounds, List.take_set]
theorem own_cells {w : World} {base e size n : Nat} {v : Value} {xs : List Value} (h : w.ownsRow base e size v n xs) (hn : 0 < n) : ∃ g c, v = .slice (some ⟨g, 0, none⟩) n c ∧ n ≤ c ∧ (∀ i u, xs[i]? = some u → w.cell? ⟨g, i, none⟩ = some u) ∧ ∀ i, w.frozen? ⟨g, i, none⟩ = false := by
  obtain ⟨h0, ⟨_, h1⟩ | ⟨g, cap, cur, h1, hB, hg, hn, hc, hcs, htake⟩⟩ := h
  · omega
  · refine ⟨g, cap, h1, hn, fun i u hu => ?_, fun i => Blk.frozen hg i⟩
    rw [← htake, List.getElem?_take] at hu
    split at hu
    · rw [Blk.cell hg i]
      simpa using hu
    · cases hu
theorem bcells_set (pre suf : List Br) (b0 b : Br) : ((((((bcells (pre ++ b0 :: suf)).set (pre.length * 6) (.int .i64 b.col)).set (pre.length * 6 + 1) (.int .i64 b.cut)).set (pre.length * 6 + 2) (.int .i64 b.low)).set (pre.length * 6 + 3) (.int .i64 b.high)).set (pre.length * 6 + 4) (.int .i64 b.label)).set (pre.length * 6 + 5) (.int .i64 b.rows) = bcells (pre ++ b :: suf) := by
  have e1 : ∀ x : Br, bcells (pre ++ x :: suf) = bcells pre ++ (x.cells ++ bcells suf) := fun x => by simp [bcells]
  have hl := bcells_length pre
  rw [e1, e1]
  simp only [Br.cells]
  generalize bcells pre = P at *
  generalize pre.length * 6 = k at *
  subst hl
  simp
theorem bcells_at (pre suf : List Br) (b : Br) {j : Nat} (hj : j < 6) : (bcells (pre ++ b :: suf))[pre.length * 6 + j]? = b.cells[j]? := by
  have e1 : bcells (pre ++ b :: suf) = bcells pre ++ (b.cells ++ bcells suf) := by simp [bcells]
  rw [e1, List.getElem?_append_right (by rw [bcells_length]; omega), bcells_length, Nat.add_sub_cancel_left, List.getElem?_append_left (by simpa [Br.cells] using hj)]
theorem keep6 {S : Nat → Prop} {w w' : World} (h : Keep S w w') {g : Nat} (hg : S g ∨ w.heap.size ≤ g) (i : Nat) (v0 v1 v2 v3 v4 v5 : Value) : Keep S w ((((((w'.setCell ⟨g, i, none⟩ v0).setCell ⟨g, i + 1, none⟩ v1).setCell ⟨g, i + 2, none⟩ v2).setCell ⟨g, i + 3, none⟩ v3).setCell ⟨g, i + 4, none⟩ v4).setCell ⟨g, i + 5, none⟩ v5) :=
  (((((h.setCell (p := ⟨g, i, none⟩) hg v0).setCell (p := ⟨g, i + 1, none⟩) hg v1).setCell (p := ⟨g, i + 2, none⟩) hg v2).setCell (p := ⟨g, i + 3, none⟩) hg v3).setCell (p := ⟨g, i + 4, none⟩) hg v4).setCell (p := ⟨g, i + 5, none⟩) hg v5
/-- What grow holds: the box of out, the box of least, the box of grow itself. -/
structure GBox (W : World) (ob lb gb : Nat) (v : Value) (least : Int) (fv : Value) : Prop where
  out : Blk W ob 49 #[v]
  lea : Blk W lb 3 #[.int .i64 least]
  fn : Blk W gb 84 #[fv]
/-- What grow does: out grows, in its box. -/
structure GM (B : Nat) (w W : World) (ob lb gb : Nat) (v0 v : Value) (out : List Br) (least : Int) (fv : Value) : Prop where
  bx : GBox W ob lb gb v least fv
  ou : BOwn B W v out
  at_ : ∀ k, v.ownBlock = some k → v0.ownBlock = some k ∨ w.heap.size ≤ k
  kp : Keep (fun k => k = ob ∨ v0.ownBlock = some k) w W
section
variable {B : Nat} {w W W' : World} {ob lb gb : Nat} {v0 v v' : Value} {out out' : List Br} {least : Int} {fv : Value} {b : Br}
theorem GM.start (h : GBox w ob lb gb v least fv) (ho : BOwn B w v out) : GM B w w ob lb gb v v out least fv := ⟨h, ho, fun _ e => .inl e, Keep.refl _ _⟩
theorem GBox.ne_ (h : GBox W ob lb gb v least fv) : lb ≠ ob ∧ gb ≠ ob := ⟨h.lea.ne_ h.out (by decide), h.fn.ne_ h.out (by decide)⟩
theorem GM.new_ (h : GM B w W ob lb gb v0 v out least fv) (hk : Keep No W W') : GM B w W' ob lb gb v0 v out least fv := ⟨⟨h.bx.out.keep hk (fun x => x), h.bx.lea.keep hk (fun x => x), h.bx.fn.keep hk (fun x => x)⟩, h.ou.keep hk (fun _ _ x => x), h.at_, h.kp.trans hk (fun _ x => x.elim)⟩
theorem GM.trans (h : GM B w W ob lb gb v0 v out least fv) (h' : GM B W W' ob lb gb v v' out' least fv) : GM B w W' ob lb gb v0 v' out' least fv :=
  ⟨h'.bx, h'.ou, fun k e => (h'.at_ k e).elim (fun e => h.at_ k e) (fun e => .inr (Nat.le_trans h.kp.size e)), h.kp.trans h'.kp (fun k e => e.elim (fun e => .inl (.inl e)) (fun e => (h.at_ k e).elim (fun e => .inl (.inr e)) .inr))⟩
theorem GM.pushb {o : Obj} (h : GM B w W ob lb gb v0 v out least fv) (hg : (W.alloc o).grownBy W' v.ownBlock) : Blk W' ob 49 #[v] := by
  have hk : Keep (fun k => v.ownBlock = some k) W W' := ((Keep.refl _ W).alloc o).grown hg (fun k e => .inl e)
  exact h.bx.out.keep hk (own_blk_ne h.ou h.bx.out (by decide))
/-- out with one more, and its box. -/
theorem GM.push {o : Obj} (h : GM B w W ob lb gb v0 v out least fv) (ho : W'.ownsRow B 69 6 v' (out.length + 1) (bcells out ++ b.cells)) (hg : (W.alloc o).grownBy W' v.ownBlock) (hat : v'.ownBlock = v.ownBlock ∨ v'.ownBlock = some (W.alloc o).heap.size) :
    GM B w (W'.setCell ⟨ob, 0, none⟩ v') ob lb gb v0 v' (out ++ [b]) least fv := by
  have hk : Keep (fun k => v.ownBlock = some k) W W' := ((Keep.refl _ W).alloc o).grown hg (fun k e => .inl e)
  have n1 : v.ownBlock ≠ some ob := own_blk_ne h.ou h.bx.out (by decide)
  have n2 : v.ownBlock ≠ some lb := own_blk_ne h.ou h.bx.lea (by decide)
  have n3 : v.ownBlock ≠ some gb := own_blk_ne h.ou h.bx.fn (by decide)
  have b1 := h.bx.out.keep hk n1
  have b2 := h.bx.lea.keep hk n2
  have b3 := h.bx.fn.keep hk n3
  have n4 : v'.ownBlock ≠ some ob := own_blk_ne ho b1 (by decide)
  have ks : Keep (fun k => k = ob) W' (W'.setCell ⟨ob, 0, none⟩ v') := (Keep.refl (fun k => k = ob) W').setCell (p := ⟨ob, 0, none⟩) (.inl rfl) _
  refine ⟨⟨?_, b2.keep ks h.bx.ne_.1, b3.keep ks h.bx.ne_.2⟩, ?_, fun k e => ?_, ?_⟩
  · have := b1.set_ 0 v'
    simpa using this
  · unfold BOwn
    rw [← bcells_push, List.length_append]
    exact own_keep ho ks (fun k e e2 => n4 (by rw [e, e2]))
  · rcases hat with e2 | e2
    · exact h.at_ k (e2 ▸ e)
    · rw [e2] at e
      injection e with e
      have := h.kp.size
      have := World.size_alloc W o
      exact .inr (by omega)
  · refine (h.kp.trans hk (fun k e => (h.at_ k e).elim (fun e => .inl (.inr e)) .inr)).trans ks (fun k e => .inl (.inl e))
/-- One of out is written. -/
theorem GM.put {g c : Nat} {pre suf : List Br} {b0 : Br} (h : GM B w W ob lb gb v0 (.slice (some ⟨g, 0, none⟩) (pre ++ b0 :: suf).length c) (pre ++ b0 :: suf) least fv) (b : Br) :
    GM B w ((((((W.setCell ⟨g, pre.length * 6, none⟩ (.int .i64 b.col)).setCell ⟨g, pre.length * 6 + 1, none⟩ (.int .i64 b.cut)).setCell ⟨g, pre.length * 6 + 2, none⟩ (.int .i64 b.low)).setCell ⟨g, pre.length * 6 + 3, none⟩ (.int .i64 b.high)).setCell ⟨g, pre.length * 6 + 4, none⟩ (.int .i64 b.label)).setCell ⟨g, pre.length * 6 + 5, none⟩ (.int .i64 b.rows)) ob lb gb v0 (.slice (some ⟨g, 0, none⟩) (pre ++ b0 :: suf).length c) (pre ++ b :: suf) least fv := by
  have ks : Keep (fun k => k = g) W ((((((W.setCell ⟨g, pre.length * 6, none⟩ (.int .i64 b.col)).setCell ⟨g, pre.length * 6 + 1, none⟩ (.int .i64 b.cut)).setCell ⟨g, pre.length * 6 + 2, none⟩ (.int .i64 b.low)).setCell ⟨g, pre.length * 6 + 3, none⟩ (.int .i64 b.high)).setCell ⟨g, pre.length * 6 + 4, none⟩ (.int .i64 b.label)).setCell ⟨g, pre.length * 6 + 5, none⟩ (.int .i64 b.rows)) := keep6 (Keep.refl (fun k => k = g) W) (.inl rfl) _ _ _ _ _ _ _
  have n1 : ob ≠ g := fun e => own_blk_ne h.ou h.bx.out (by decide) (e ▸ rfl)
  have n2 : lb ≠ g := fun e => own_blk_ne h.ou h.bx.lea (by decide) (e ▸ rfl)
  have n3 : gb ≠ g := fun e => own_blk_ne h.ou h.bx.fn (by decide) (e ▸ rfl)
  refine ⟨⟨h.bx.out.keep ks n1, h.bx.lea.keep ks n2, h.bx.fn.keep ks n3⟩, ?_, h.at_, h.kp.trans ks (fun k e => by subst e; exact (h.at_ k rfl).elim (fun e => .inl (.inr e)) .inr)⟩
  unfold BOwn
  rw [← bcells_set pre suf b0 b]
  have hl : (pre ++ b :: suf).length = (pre ++ b0 :: suf).length := by simp
  rw [hl]
  exact own_set (own_set (own_set (own_set (own_set (own_set h.ou _ _) _ _) _ _) _ _) _ _) _ _
end
end Go.Proofs.YtgabidgpngiecaaGreat

namespace Go.Proofs.YtgabidgpngiecaaGreatPlain
open Go.Lib

/-- What stays of a sorted list: rising, each element once. -/
theorem compact_up {d : Array Int} (hs : ∀ i j, i ≤ j → j < d.size → d[i]! ≤ d[j]!) : ∀ m, m ≤ d.size →
    (compactUpTo d m).Pairwise (· < ·) ∧ (∀ j, j < m → d[j]! ∈ compactUpTo d m) ∧ (∀ x ∈ compactUpTo d m, ∃ j, j < m ∧ x = d[j]!)
  | 0, _ => by
    refine ⟨by simp [compactUpTo], fun j hj => by omega, fun x hx => by simp [compactUpTo] at hx⟩
  | m + 1, hm => by
    obtain ⟨h1, h2, h3⟩ := compact_up hs m (by omega)
    rw [compactUpTo_succ]
    by_cases hk : keeps d m = true
    · rw [if_pos hk]
      have hlt : ∀ x ∈ compactUpTo d m, x < d[m]! := fun x hx => by
        obtain ⟨j, hj, rfl⟩ := h3 x hx
        have e1 : m = 0 ∨ d[m]! ≠ d[m - 1]! := by simpa [keeps] using hk
        have e2 := hs j (m - 1) (by omega) (by omega)
        have e3 := hs (m - 1) m (by omega) (by omega)
        rcases e1 with e1 | e1 <;> omega
      refine ⟨List.pairwise_append.2 ⟨h1, by simp, fun x hx y hy => ?_⟩, fun j hj => ?_, fun x hx => ?_⟩
      · rw [List.mem_singleton.1 hy]
        exact hlt x hx
      · rcases Nat.lt_or_eq_of_le (Nat.le_of_lt_succ hj) with h | rfl
        · exact List.mem_append_left _ (h2 j h)
        · exact List.mem_append_right _ (by simp)
      · rcases List.mem_append.1 hx with h | h
        · obtain ⟨j, hj, e⟩ := h3 x h
          exact ⟨j, by omega, e⟩
        · exact ⟨m, by omega, by simpa using h⟩
    · rw [if_neg hk, List.append_nil]
      have e1 : ¬ (m = 0 ∨ d[m]! ≠ d[m - 1]!) := by simpa [keeps] using hk
      have e2 : m ≠ 0 ∧ d[m]! = d[m - 1]! := ⟨fun h => e1 (.inl h), Decidable.byContradiction fun h => e1 (.inr h)⟩
      refine ⟨h1, fun j hj => ?_, fun x hx => ?_⟩
      · rcases Nat.lt_or_eq_of_le (Nat.le_of_lt_succ hj) with h | rfl
        · exact h2 j h
        · rw [e2.2]
          exact h2 _ (by omega)
      · obtain ⟨j, hj, e⟩ := h3 x hx
        exact ⟨j, by omega, e⟩
theorem compact_sorted {zs : List Int} (h : zs.Pairwise (· ≤ ·)) : (compact zs).Pairwise (· < ·) ∧ ∀ x, x ∈ compact zs ↔ x ∈ zs := by
  have hg : ∀ j, (h : j < zs.length) → zs.toArray[j]! = zs[j] := fun j hj => by simp [hj]
  have hs : ∀ i j, i ≤ j → j < zs.toArray.size → zs.toArray[i]! ≤ zs.toArray[j]! := fun i j hij hj => by
    have hj' : j < zs.length := by simpa using hj
    rw [hg i (by omega), hg j hj']
    rcases Nat.lt_or_eq_of_le hij with h1 | rfl
    · exact List.pairwise_iff_getElem.1 h i j (by omega) hj' h1
    · exact Int.le_refl _
  obtain ⟨h1, h2, h3⟩ := compact_up hs zs.length (by simp)
  refine ⟨h1, fun x => ⟨fun hx => ?_, fun hx => ?_⟩⟩
  · obtain ⟨j, hj, rfl⟩ := h3 x hx
    rw [hg j hj]
    exact List.getElem_mem hj
  · obtain ⟨j, hj, rfl⟩ := List.getElem_of_mem hx
    have := h2 j hj
    rwa [hg j hj] at this
/-- All but the last of a rising list have a greater one in it. -/
theorem dropLast_lt {xs : List Int} (h : xs.Pairwise (· < ·)) {x : Int} (hx : x ∈ xs.dropLast) : x ∈ xs ∧ ∃ y ∈ xs, x < y := by
  have hne : xs ≠ [] := fun e => by rw [e] at hx; simp at hx
  have e : xs.dropLast ++ [xs.getLast hne] = xs := List.dropLast_concat_getLast hne
  refine ⟨List.dropLast_subset _ hx, xs.getLast hne, List.getLast_mem hne, ?_⟩
  rw [← e] at h
  exact (List.pairwise_append.1 h).2.2 x hx _ (by simp)
theorem dropLast_nil {xs : List Int} (h : xs.dropLast = []) {x y : Int} (hx : x ∈ xs) (hy : y ∈ xs) : x = y := by
  have hl : xs.length ≤ 1 := by
    have := congrArg List.length h
    rw [List.length_dropLast] at this
    simp at this
    omega
  match xs, hl with
  | [], _ => simp at hx
  | [z], _ => rw [List.mem_singleton.1 hx, List.mem_singleton.1 hy]

/-! ### Kinds -/
theorem totC_one {c : Nat → Nat} {m : Nat} (hm : m < 8) (h : ∀ i, i < 8 → i ≠ m → c i = 0) : totC c 8 = (c m : Int) := by
  have e0 := h 0
  have e1 := h 1
  have e2 := h 2
  have e3 := h 3
  have e4 := h 4
  have e5 := h 5
  have e6 := h 6
  have e7 := h 7
  have : m = 0 ∨ m = 1 ∨ m = 2 ∨ m = 3 ∨ m = 4 ∨ m = 5 ∨ m = 6 ∨ m = 7 := by omega
  simp only [totC]
  rcases this with rfl | rfl | rfl | rfl | rfl | rfl | rfl | rfl <;> omega
theorem cnt8_perm {T U : List Row} (h : T.Perm U) : cnt8 T = cnt8 U := by
  funext i
  unfold cnt8 cntL
  exact h.countP_eq _
theorem cnt8_pos {T : List Row} {i : Nat} : 0 < cnt8 T i ↔ ∃ r ∈ T, r.l = (i : Nat) := by
  unfold cnt8 cntL
  rw [List.countP_pos_iff]
  simp
end Go.Proofs.YtgabidgpngiecaaGreatPlain

namespace Go.Proofs.YtgabidgpngiecaaGreat
open Go.RowKit Go.Proofs.YtgabidgpngiecaaGreatKit Go.Proofs.YtgabidgpngiecaaGreatPlain

theorem isrt_sorted (xs : List Int) : (isrt xs).Pairwise (· ≤ ·) := by
  unfold isrt
  have h := List.pairwise_mergeSort (le := fun x y : Int => decide (x ≤ y)) (fun a b c h1 h2 => by simp at *; omega) (fun a b => by simp; omega) xs
  exact h.imp (fun h => by simpa using h)
theorem colL_up (c : Nat) (L : List (Row × Nat)) : (colL c L).Pairwise (· < ·) := (compact_sorted (isrt_sorted _)).1
theorem colL_mem {c : Nat} {L : List (Row × Nat)} {x : Int} : x ∈ colL c L ↔ ∃ p ∈ L, p.1.x c = x := by
  unfold colL
  rw [(compact_sorted (isrt_sorted _)).2, isrt, (List.mergeSort_perm _ _).mem_iff, List.mem_map]

/-! ### The best cut -/
theorem fold_ok {L : List (Row × Nat)} {c : Nat} : ∀ (xs : List Int) (s : Cut), (xs.foldl (cutStep L c) s).ok = false → s.ok = false ∧ xs = []
  | [], s, h => ⟨h, rfl⟩
  | x :: xs, s, h => by
    have h1 := (fold_ok xs _ h).1
    unfold cutStep at h1
    split at h1
    · cases h1
    · rename_i h2
      exact absurd (.inl h1) h2
theorem best_none {L : List (Row × Nat)} : ∀ k, (bestTo L k).ok = false → ∀ c, c < k → (colL c L).dropLast = []
  | k + 1, h, c, hc => by
    have h1 := fold_ok _ _ h
    rcases Nat.lt_or_eq_of_le (Nat.le_of_lt_succ hc) with h2 | rfl
    · exact best_none k h1.1 c h2
    · exact h1.2
theorem fold_some {L : List (Row × Nat)} {c : Nat} {P : Cut → Prop} : ∀ (xs : List Int) (s : Cut), (∀ x ∈ xs, ∀ n d, P ⟨c, x, n, d, true⟩) → P s → P (xs.foldl (cutStep L c) s)
  | [], _, _, h => h
  | x :: xs, s, hx, h => by
    refine fold_some xs _ (fun y hy => hx y (List.mem_cons_of_mem _ hy)) ?_
    unfold cutStep
    split
    · exact hx x List.mem_cons_self _ _
    · exact h
theorem best_some {L : List (Row × Nat)} : ∀ k, (bestTo L k).ok = true → (bestTo L k).col < k ∧ (bestTo L k).cut ∈ (colL (bestTo L k).col L).dropLast
  | 0 => fun h => by cases h
  | k + 1 => by
    refine fold_some (P := fun s => s.ok = true → s.col < k + 1 ∧ s.cut ∈ (colL s.col L).dropLast) _ _ (fun x hx n d _ => ⟨Nat.lt_succ_self _, hx⟩) (fun h => ?_)
    have := best_some k h
    exact ⟨by omega, this.2⟩
theorem expand_lowL (c : Nat) (x : Int) (L : List (Row × Nat)) : expand (lowL c x L) = (expand L).filter (fun r => decide (r.x c ≤ x)) ∧ expand (highL c x L) = (expand L).filter (fun r => !decide (r.x c ≤ x)) := by
  induction L with
  | nil => exact ⟨rfl, rfl⟩
  | cons p L ih =>
    rw [expand_cons, List.filter_append, List.filter_append, ← ih.1, ← ih.2]
    by_cases h : p.1.x c ≤ x
    · have e1 : lowL c x (p :: L) = p :: lowL c x L := by simp [lowL, h]
      have e2 : highL c x (p :: L) = highL c x L := by simp [highL, h]
      rw [e1, e2, expand_cons]
      constructor
      · congr 1
        rw [List.filter_eq_self.2]
        intro r hr
        rw [(List.mem_replicate.1 hr).2]
        simpa using h
      · rw [List.filter_eq_nil_iff.2, List.nil_append]
        intro r hr
        rw [(List.mem_replicate.1 hr).2]
        simpa using h
    · have e1 : lowL c x (p :: L) = lowL c x L := by simp [lowL, h]
      have e2 : highL c x (p :: L) = p :: highL c x L := by simp [highL, h]
      rw [e1, e2, expand_cons]
      constructor
      · rw [List.filter_eq_nil_iff.2, List.nil_append]
        intro r hr
        rw [(List.mem_replicate.1 hr).2]
        simpa using h
      · congr 1
        rw [List.filter_eq_self.2]
        intro r hr
        rw [(List.mem_replicate.1 hr).2]
        simpa using h

/-! ### Pure -/
theorem pure_one {T : List Row} (hok : ∀ r ∈ T, okRow r) (h : PureC (cnt8 T)) : ∀ r ∈ T, r.l = (mostC (cnt8 T) 8 : Nat) := fun r hr => by
  obtain ⟨i, hi⟩ : ∃ i : Nat, r.l = i := ⟨r.l.toNat, by have := (hok r hr).2.2.2.1; omega⟩
  have h8 : i < 8 := by have := (hok r hr).2.2.2.2; omega
  have hpos : 0 < cnt8 T i := cnt8_pos.2 ⟨r, hr, hi⟩
  have h1 := h i h8
  rw [hi]
  by_cases e : i = mostC (cnt8 T) 8
  · rw [← e]
  · rw [if_neg e] at h1
    omega
theorem mostC_lt8 (c : Nat → Nat) : mostC c 8 < 8 := by have := mostC_lt c 8; omega
theorem kinds_two {c : Nat → Nat} (h : ¬ PureC c) : ∃ i j, i < 8 ∧ j < 8 ∧ i ≠ j ∧ 0 < c i ∧ 0 < c j := by
  have hm := mostC_lt8 c
  refine Classical.byContradiction fun hn => h fun i hi => ?_
  have hz : ∀ j, j < 8 → j ≠ mostC c 8 → c j = 0 := fun j hj hne => by
    refine Decidable.byContradiction fun h0 => hn ⟨j, mostC c 8, hj, hm, hne, by omega, ?_⟩
    have := mostC_max (c := c) 8 j hj
    omega
  by_cases e : i = mostC c 8
  · rw [if_pos e, totC_one hm hz, ← e]
  · rw [if_neg e, hz i hi e]
    rfl

/-! ### What the law asks of each branch -/
/-- What has come to each place, and how deep it lies. -/
structure TS where
  come : Nat → List Row
  above : Nat → Nat
def lowC (c : Nat) (x : Int) (T : List Row) : List Row := T.filter (fun r => decide (r.x c ≤ x))
def highC (c : Nat) (x : Int) (T : List Row) : List Row := T.filter (fun r => !decide (r.x c ≤ x))
def TS.step (b : Br) (i : Nat) (s : TS) : TS :=
  if 0 ≤ b.label then s else
    { come := fun j => if j = b.low.toNat then s.come j ++ lowC b.col.toNat b.cut (s.come i) else if j = b.high.toNat then s.come j ++ highC b.col.toNat b.cut (s.come i) else s.come j
      above := fun j => if j = b.low.toNat ∨ j = b.high.toNat then s.above i + 1 else s.above j }
def TS.run (T : List Br) (s : TS) : Nat → TS
  | 0 => s
  | i + 1 => match T[i]? with
    | some b => (TS.run T s i).step b i
    | none => TS.run T s i
def sameX (r r' : Row) : Prop := r.a = r'.a ∧ r.b = r'.b ∧ r.c = r'.c
/-- Whether rows can be parted: two labels, two points. -/
def PartP (T : List Row) : Prop := ∃ r0, T[0]? = some r0 ∧ (∃ r ∈ T, r.l ≠ r0.l) ∧ ∃ r ∈ T, ¬ sameX r r0
/-- What is asked of a leaf. -/
def LeafOk (deep : Nat) (few : Int) (b : Br) (i : Nat) (s : TS) : Prop :=
  ∃ m : Nat, b = ⟨0, 0, -1, -1, m, b.rows⟩ ∧ m < 8 ∧ (∀ k, k < 8 → cnt8 (s.come i) k ≤ cnt8 (s.come i) m) ∧ (∀ k, k < m → cnt8 (s.come i) k < cnt8 (s.come i) m) ∧ (s.above i < deep → few ≤ (s.come i).length → ¬ PartP (s.come i))
/-- What is asked of a branch. -/
def ForkOk (n deep : Nat) (few : Int) (b : Br) (i : Nat) (s : TS) : Prop :=
  ∃ (c hi : Nat), b = ⟨c, b.cut, (i + 1 : Nat), hi, -1, b.rows⟩ ∧ c < 3 ∧ i + 1 < hi ∧ hi < n ∧ (s.come (i + 1) = [] ∧ s.come hi = []) ∧ s.above i < deep ∧ few ≤ (s.come i).length ∧ ∃ k1 k2, k1 < 8 ∧ k2 < 8 ∧ k1 ≠ k2 ∧ 0 < cnt8 (s.come i) k1 ∧ 0 < cnt8 (s.come i) k2
def BrOk (n deep : Nat) (few : Int) (b : Br) (i : Nat) (s : TS) : Prop :=
  b.rows = (s.come i).length ∧ 0 < (s.come i).length ∧ (∀ r ∈ s.come i, okRow r) ∧ (s.come i).length ≤ 500 ∧ (LeafOk deep few b i s ∨ ForkOk n deep few b i s)

theorem run_at {T : List Br} {s : TS} {i : Nat} {b : Br} (h : T[i]? = some b) : TS.run T s (i + 1) = (TS.run T s i).step b i := by rw [TS.run, h]
theorem tot_perm {T C : List Row} (hp : C.Perm T) (hok : ∀ r ∈ T, okRow r) : totC (cnt8 T) 8 = (C.length : Int) := by rw [totC_len hok, hp.length_eq]

theorem leaf_ok {few : Int} {left deep n i : Nat} {L : List (Row × Nat)} {s : TS} (h5 : (expand L).length ≤ 500) (hp : (s.come i).Perm (expand L)) (hok : ∀ r ∈ expand L, okRow r) (h0 : expand L ≠ []) (hd : s.above i + left = deep) (hl : leafL left few L) : BrOk n deep few (leafB L) i s := by
  have hpos : 0 < (s.come i).length := by rw [hp.length_eq]; exact List.length_pos_iff.2 h0
  refine ⟨tot_perm hp hok, hpos, fun r hr => hok r (hp.mem_iff.1 hr), by rw [hp.length_eq]; exact h5, .inl ⟨mostC (cnt8 (expand L)) 8, rfl, mostC_lt8 _, fun k hk => ?_, fun k hk => ?_, fun ha hf hpart => ?_⟩⟩
  · rw [cnt8_perm hp]; exact mostC_max 8 k hk
  · rw [cnt8_perm hp]; exact mostC_least 8 k hk
  · obtain ⟨r0, e0, ⟨r, hr, hne⟩, r', hr', hx⟩ := hpart
    have m0 : r0 ∈ expand L := hp.mem_iff.1 (List.mem_of_getElem? e0)
    rcases hl with h | h | h | h
    · omega
    · rw [tot_perm hp hok] at h
      omega
    · have h1 := pure_one hok h r (hp.mem_iff.1 hr)
      have h2 := pure_one hok h r0 m0
      exact hne (by rw [h1, h2])
    · have h1 := best_none 3 h
      have hc : ∀ c, c < 3 → r'.x c = r0.x c := fun c hc => by
        obtain ⟨q, hq, _⟩ := mem_expand.1 (hp.mem_iff.1 hr')
        obtain ⟨q0, hq0, _⟩ := mem_expand.1 m0
        exact dropLast_nil (h1 c hc) (colL_mem.2 ⟨_, hq, rfl⟩) (colL_mem.2 ⟨_, hq0, rfl⟩)
      exact hx ⟨hc 0 (by omega), hc 1 (by omega), hc 2 (by omega)⟩

theorem hok_of {L : List (Row × Nat)} (hL : ∀ p ∈ L, 0 < p.2 ∧ okRow p.1) : ∀ r ∈ expand L, okRow r := fun r hr => by
  obtain ⟨n, h, _⟩ := mem_expand.1 hr
  exact (hL _ h).2
theorem tree_sub {few : Int} {deep : Nat} {T : List Br} {s0 : TS} : ∀ (left : Nat) (L : List (Row × Nat)) (at_ : Nat) (pre suf : List Br), T = pre ++ (treeL few left L at_ ++ suf) → pre.length = at_ → (expand L).length ≤ 500 →
    ((TS.run T s0 at_).come at_).Perm (expand L) → (∀ p ∈ L, 0 < p.2 ∧ okRow p.1) → expand L ≠ [] → (TS.run T s0 at_).above at_ + left = deep →
    (∀ j, at_ < j → j < at_ + (treeL few left L at_).length → (TS.run T s0 at_).come j = []) →
    (∀ i b, at_ ≤ i → i < at_ + (treeL few left L at_).length → T[i]? = some b → BrOk T.length deep few b i (TS.run T s0 i)) ∧
    (∀ j, at_ + (treeL few left L at_).length ≤ j → (TS.run T s0 (at_ + (treeL few left L at_).length)).come j = (TS.run T s0 at_).come j ∧ (TS.run T s0 (at_ + (treeL few left L at_).length)).above j = (TS.run T s0 at_).above j) := by
  have leafcase : ∀ (left : Nat) (L : List (Row × Nat)) (at_ : Nat) (pre suf : List Br), T = pre ++ ([leafB L] ++ suf) → pre.length = at_ → (expand L).length ≤ 500 → leafL left few L →
    ((TS.run T s0 at_).come at_).Perm (expand L) → (∀ r ∈ expand L, okRow r) → expand L ≠ [] → (TS.run T s0 at_).above at_ + left = deep →
    (∀ i b, at_ ≤ i → i < at_ + 1 → T[i]? = some b → BrOk T.length deep few b i (TS.run T s0 i)) ∧
    (∀ j, at_ + 1 ≤ j → (TS.run T s0 (at_ + 1)).come j = (TS.run T s0 at_).come j ∧ (TS.run T s0 (at_ + 1)).above j = (TS.run T s0 at_).above j) := by
    intro left L at_ pre suf hT hpl h5 hl hp hok h0 hd
    have hb : T[at_]? = some (leafB L) := by rw [hT, ← hpl]; simp
    refine ⟨fun i b h1 h2 hbi => ?_, fun j hj => ?_⟩
    · obtain rfl : i = at_ := by omega
      rw [hb] at hbi
      injection hbi with e
      subst e
      exact leaf_ok h5 hp hok h0 hd hl
    · rw [run_at hb, TS.step, if_pos (show 0 ≤ (leafB L).label from Int.natCast_nonneg _)]
      exact ⟨rfl, rfl⟩
  intro left
  induction left with
  | zero =>
    intro L at_ pre suf hT hpl h5 hp hL h0 hd _
    exact leafcase 0 L at_ pre suf hT hpl h5 (.inl rfl) hp (hok_of hL) h0 hd
  | succ left ih =>
    intro L at_ pre suf hT hpl h5 hp hL h0 hd hem
    rw [treeL] at hT hem ⊢
    split at hT
    · rename_i hl
      rw [if_pos hl] at hem ⊢
      exact leafcase (left + 1) L at_ pre suf hT hpl h5 hl hp (hok_of hL) h0 hd
    · rename_i hl
      rw [if_neg hl] at hem ⊢
      dsimp only at hT hem ⊢
      have hok1 : (bestTo L 3).ok = true := by
        cases h : (bestTo L 3).ok
        · exact absurd (.inr (.inr (.inr h))) hl
        · rfl
      obtain ⟨hcol, hcut⟩ := best_some 3 hok1
      obtain ⟨hm1, y, hm2, hlt⟩ := dropLast_lt (colL_up _ _) hcut
      obtain ⟨el, eh⟩ := expand_lowL (bestTo L 3).col (bestTo L 3).cut L
      generalize hc : (bestTo L 3).col = c at *
      generalize hx : (bestTo L 3).cut = x at *
      have hnp : ¬ PureC (cnt8 (expand L)) := fun h => hl (.inr (.inr (.inl h)))
      have hfew : few ≤ totC (cnt8 (expand L)) 8 := by
        refine Decidable.byContradiction fun h => hl (.inr (.inl ?_))
        omega
      -- both parts have rows
      obtain ⟨p1, hp1, e1⟩ := colL_mem.1 hm1
      obtain ⟨p2, hp2, e2⟩ := colL_mem.1 hm2
      have q1 : expand (lowL c x L) ≠ [] := by
        rw [el]
        refine List.ne_nil_of_mem (a := p1.1) (List.mem_filter.2 ⟨mem_expand.2 ⟨p1.2, hp1, (hL p1 hp1).1⟩, ?_⟩)
        simp [e1]
      have q2 : expand (highL c x L) ≠ [] := by
        rw [eh]
        refine List.ne_nil_of_mem (a := p2.1) (List.mem_filter.2 ⟨mem_expand.2 ⟨p2.2, hp2, (hL p2 hp2).1⟩, ?_⟩)
        simp [e2]; omega
      have okl : ∀ p ∈ lowL c x L, 0 < p.2 ∧ okRow p.1 := fun p hp => hL p (List.mem_filter.1 hp).1
      have okh : ∀ p ∈ highL c x L, 0 < p.2 ∧ okRow p.1 := fun p hp => hL p (List.mem_filter.1 hp).1
      have hok := hok_of hL
      -- the branch itself
      obtain ⟨A, hA⟩ : ∃ A, A = treeL few left (lowL c x L) (at_ + 1) := ⟨_, rfl⟩
      rw [← hA] at hT hem ⊢
      obtain ⟨B, hB⟩ : ∃ B, B = treeL few left (highL c x L) (at_ + 1 + A.length) := ⟨_, rfl⟩
      rw [← hB] at hT hem ⊢
      have hAp : 0 < A.length := hA ▸ treeL_pos ..
      have hBp : 0 < B.length := hB ▸ treeL_pos ..
      obtain ⟨b, hbd⟩ : ∃ b : Br, b = ⟨c, x, (at_ + 1 : Nat), (at_ + 1 + A.length : Nat), -1, totC (cnt8 (expand L)) 8⟩ := ⟨_, rfl⟩
      rw [← hbd] at hT hem ⊢
      have hlen : (b :: (A ++ B)).length = 1 + A.length + B.length := by simp; omega
      rw [hlen] at hem ⊢
      have hTl : T.length = at_ + 1 + A.length + B.length + suf.length := by rw [hT, ← hpl]; simp; omega
      have hb : T[at_]? = some b := by rw [hT, ← hpl]; simp
      have hs1 := run_at (s := s0) hb
      generalize hs : TS.run T s0 at_ = s at *
      have hneg : ¬ 0 ≤ b.label := by rw [hbd]; show ¬ (0 : Int) ≤ -1; decide
      rw [TS.step, if_neg hneg] at hs1
      have elo : b.low.toNat = at_ + 1 := by rw [hbd]; rfl
      have ehi : b.high.toNat = at_ + 1 + A.length := by rw [hbd]; rfl
      have eco : b.col.toNat = c := by rw [hbd]; rfl
      have ecu : b.cut = x := by rw [hbd]
      rw [elo, ehi, eco, ecu] at hs1
      have c1 : (TS.run T s0 (at_ + 1)).come (at_ + 1) = lowC c x (s.come at_) := by
        rw [hs1]
        show (if at_ + 1 = at_ + 1 then _ else _) = _
        rw [if_pos rfl, hem (at_ + 1) (by omega) (by omega), List.nil_append]
      have c2 : (TS.run T s0 (at_ + 1)).come (at_ + 1 + A.length) = highC c x (s.come at_) := by
        rw [hs1]
        show (if at_ + 1 + A.length = at_ + 1 then _ else if at_ + 1 + A.length = at_ + 1 + A.length then _ else _) = _
        rw [if_neg (by omega), if_pos rfl, hem _ (by omega) (by omega), List.nil_append]
      have c3 : ∀ j, j ≠ at_ + 1 → j ≠ at_ + 1 + A.length → (TS.run T s0 (at_ + 1)).come j = s.come j ∧ (TS.run T s0 (at_ + 1)).above j = s.above j := fun j h1 h2 => by
        rw [hs1]
        exact ⟨by show (if j = at_ + 1 then _ else if j = at_ + 1 + A.length then _ else _) = _; rw [if_neg h1, if_neg h2], by show (if j = at_ + 1 ∨ j = at_ + 1 + A.length then _ else _) = _; rw [if_neg (by omega)]⟩
      have a1 : (TS.run T s0 (at_ + 1)).above (at_ + 1) = s.above at_ + 1 := by
        rw [hs1]
        show (if at_ + 1 = at_ + 1 ∨ at_ + 1 = at_ + 1 + A.length then _ else _) = _
        rw [if_pos (.inl rfl)]
      have a2 : (TS.run T s0 (at_ + 1)).above (at_ + 1 + A.length) = s.above at_ + 1 := by
        rw [hs1]
        show (if at_ + 1 + A.length = at_ + 1 ∨ at_ + 1 + A.length = at_ + 1 + A.length then _ else _) = _
        rw [if_pos (.inr rfl)]
      clear hs1
      have I1 := ih (lowL c x L) (at_ + 1) (pre ++ [b]) (B ++ suf) (by rw [hT, ← hA]; simp) (by simp [hpl]) (by have := expand_low (c := c) (x := x) (L := L); omega) (by rw [c1, el]; exact hp.filter _) okl q1 (by rw [a1]; omega) (fun j h1 h2 => by rw [← hA] at h2; rw [(c3 j (by omega) (by omega)).1]; exact hem j (by omega) (by omega))
      rw [← hA] at I1
      have g2 := I1.2 (at_ + 1 + A.length) (by omega)
      have I2 := ih (highL c x L) (at_ + 1 + A.length) (pre ++ (b :: A)) suf (by rw [hT, ← hB]; simp) (by simp [hpl]; omega) (by have := expand_low (c := c) (x := x) (L := L); omega) (by rw [g2.1, c2, eh]; exact hp.filter _) okh q2 (by rw [g2.2, a2]; omega) (fun j h1 h2 => by rw [← hB] at h2; rw [(I1.2 j (by omega)).1, (c3 j (by omega) (by omega)).1]; exact hem j (by omega) (by omega))
      rw [← hB] at I2
      rw [show at_ + (1 + A.length + B.length) = at_ + 1 + A.length + B.length from by omega]
      refine ⟨fun i b' h1 h2 hbi => ?_, fun j hj => ?_⟩
      · by_cases hi0 : i = at_
        · subst hi0
          rw [hb] at hbi
          injection hbi with e
          subst e
          rw [hs]
          refine ⟨by rw [hbd]; exact tot_perm hp hok, by rw [hp.length_eq]; exact List.length_pos_iff.2 h0, fun r hr => hok r (hp.mem_iff.1 hr), by rw [hp.length_eq]; exact h5, .inr ⟨c, i + 1 + A.length, ?_, hcol, by omega, by omega, ⟨hem _ (by omega) (by omega), hem _ (by omega) (by omega)⟩, by omega, ?_, ?_⟩⟩
          · rw [hbd]
          · rw [← tot_perm hp hok]; exact hfew
          · rw [cnt8_perm hp]; exact kinds_two hnp
        · by_cases hi1 : i < at_ + 1 + A.length
          · exact I1.1 i b' (by omega) hi1 hbi
          · exact I2.1 i b' (by omega) h2 hbi
      · have g3 := I2.2 j hj
        have g4 := I1.2 j (by omega)
        have g5 := c3 j (by omega) (by omega)
        exact ⟨g3.1.trans (g4.1.trans g5.1), g3.2.trans (g4.2.trans g5.2)⟩

/-- A tree is one of the rows. -/
theorem tree_ok {few : Int} {deep : Nat} {rows : List Row} {L : List (Row × Nat)} (h5 : rows.length ≤ 500) (hp : rows.Perm (expand L)) (hL : ∀ p ∈ L, 0 < p.2 ∧ okRow p.1) (h0 : rows ≠ []) {T : List Br} (hT : T = treeL few deep L 0) :
    ∀ i b, T[i]? = some b → BrOk T.length deep few b i (TS.run T ⟨fun j => if j = 0 then rows else [], fun _ => 0⟩ i) := by
  intro i b hb
  have hi : i < T.length := (List.getElem?_eq_some_iff.1 hb).1
  have H := tree_sub (few := few) (deep := deep) (T := T) (s0 := ⟨fun j => if j = 0 then rows else [], fun _ => 0⟩) deep L 0 [] [] (by simp [hT]) rfl (by rw [← hp.length_eq]; exact h5) (show ((if (0 : Nat) = 0 then rows else []).Perm (expand L)) from by rw [if_pos rfl]; exact hp) hL (fun e => h0 (by have := hp.length_eq; rw [e] at this; exact List.length_eq_zero_iff.1 this)) (show 0 + deep = deep from by omega) (fun j h1 _ => show (if j = 0 then rows else []) = [] from if_neg (by omega))
  exact H.1 i b (Nat.zero_le _) (by rw [Nat.zero_add, ← hT]; exact hi) hb
end Go.Proofs.YtgabidgpngiecaaGreat
