/- Branches in memory. Conditions: each names its own. -/
import Derived.Test.YtgabidgpngiecaaLT6
namespace Go.Proofs.Ytgabidgpngiecaa
open Go.RowKit Go.Proofs.YtgabidgpngiecaaKit Go.Proofs.YtgabidgpngiecaaPlain

def bcells (l : List Br) : List Value := (l.map Br.cells).flatten
theorem bcells_length : ∀ l : List Br, (bcells l).length = l.length * 6
  | [] => rfl
  | b :: l => by
    have := bcells_length l
    unfold bcells at *
    rw [List.map_cons, List.flatten_cons, List.length_append, this, List.length_cons, show b.cells.length = 6 from rfl]
    omega
theorem bcells_push (l : List Br) (b : Br) : bcells l ++ b.cells = bcells (l ++ [b]) := by simp [bcells]
theorem bcells_append (l l' : List Br) : bcells (l ++ l') = bcells l ++ bcells l' := by simp [bcells]
/-- The slice v holds branches of the call's own. -/
def BOwn (B : Nat) (w : World) (v : Value) (l : List Br) : Prop := w.ownsRow B 57 6 v l.length (bcells l)
theorem BOwn.keep {B : Nat} {w w' : World} {v : Value} {l : List Br} {S : Nat → Prop} (h : BOwn B w v l) (hk : Keep S w w') (hs : ∀ k, v.ownBlock = some k → ¬ S k) : BOwn B w' v l := own_keep h hk hs
theorem info_branch : (Try.prog.info? 57).map (fun i => (i.zero, i.size, i.bytes)) = some (some (.agg #[.int .i64 0, .int .i64 0, .int .i64 0, .int .i64 0, .int .i64 0, .int .i64 0]), 6, 48) := by kernel_rfl
/-- A cell of a row of the call's own is written. -/
theorem own_set {w : World} {base e size n g c : Nat} {xs : List Value} (h : w.ownsRow base e size (.slice (some ⟨g, 0, none⟩) n c) n xs) (i : Nat) (u : Value) : (w.setCell ⟨g, i, none⟩ u).ownsRow base e size (.slice (some ⟨g, 0, none⟩) n c) n (xs.set i u) := by
  obtain ⟨h0, ⟨h1, _⟩ | ⟨g', cap, cur, h1, hB, hg, hn, hc, hcs, htake⟩⟩ := h
  · cases h1
  · injection h1 with h2 h3 h4
    injection h2 with h2
    injection h2 with h2
    subst h2 h4
    refine ⟨by rw [List.length_set]; exact h0, .inr ⟨g, c, cur.setIfInBounds i u, rfl, hB, Blk.set_ hg i u, hn, hc, by simpa using hcs, ?_⟩⟩
    rw [← htake, Array.toList_setIfInBounds, List.take_set]
theorem own_cells {w : World} {base e size n : Nat} {v : Value} {xs : List Value} (h : w.ownsRow base e size v n xs) (hn : 0 < n) : ∃ g c, v = .slice (some ⟨g, 0, none⟩) n c ∧ n ≤ c ∧ (∀ i u, xs[i]? = some u → w.cell? ⟨g, i, none⟩ = some u) ∧ ∀ i, w.frozen? ⟨g, i, none⟩ = false := by
  obtain ⟨h0, ⟨_, h1⟩ | ⟨g, cap, cur, h1, hB, hg, hn, hc, hcs, htake⟩⟩ := h
  · omega
  · refine ⟨g, cap, h1, hn, fun i u hu => ?_, fun i => Blk.frozen hg i⟩
    rw [← htake, List.getElem?_take] at hu
    split at hu
    · rw [Blk.cell hg i]
      simpa using hu
    · cases hu
theorem bcells_set (pre suf : List Br) (b0 b : Br) : ((((((bcells (pre ++ b0 :: suf)).set (pre.length * 6) (.int .i64 b.col)).set (pre.length * 6 + 1) (.int .i64 b.cut)).set (pre.length * 6 + 2) (.int .i64 b.low)).set (pre.length * 6 + 3) (.int .i64 b.high)).set (pre.length * 6 + 4) (.int .i64 b.label)).set (pre.length * 6 + 5) (.int .i64 b.rows) = bcells (pre ++ b :: suf) := by
  have e1 : ∀ x : Br, bcells (pre ++ x :: suf) = bcells pre ++ (x.cells ++ bcells suf) := fun x => by simp [bcells]
  have hl := bcells_length pre
  rw [e1, e1]
  simp only [Br.cells]
  generalize bcells pre = P at *
  generalize pre.length * 6 = k at *
  subst hl
  simp
theorem bcells_at (pre suf : List Br) (b : Br) {j : Nat} (hj : j < 6) : (bcells (pre ++ b :: suf))[pre.length * 6 + j]? = b.cells[j]? := by
  have e1 : bcells (pre ++ b :: suf) = bcells pre ++ (b.cells ++ bcells suf) := by simp [bcells]
  rw [e1, List.getElem?_append_right (by rw [bcells_length]; omega), bcells_length, Nat.add_sub_cancel_left, List.getElem?_append_left (by simpa [Br.cells] using hj)]
theorem keep6 {S : Nat → Prop} {w w' : World} (h : Keep S w w') {g : Nat} (hg : S g ∨ w.heap.size ≤ g) (i : Nat) (v0 v1 v2 v3 v4 v5 : Value) : Keep S w ((((((w'.setCell ⟨g, i, none⟩ v0).setCell ⟨g, i + 1, none⟩ v1).setCell ⟨g, i + 2, none⟩ v2).setCell ⟨g, i + 3, none⟩ v3).setCell ⟨g, i + 4, none⟩ v4).setCell ⟨g, i + 5, none⟩ v5) :=
  (((((h.setCell (p := ⟨g, i, none⟩) hg v0).setCell (p := ⟨g, i + 1, none⟩) hg v1).setCell (p := ⟨g, i + 2, none⟩) hg v2).setCell (p := ⟨g, i + 3, none⟩) hg v3).setCell (p := ⟨g, i + 4, none⟩) hg v4).setCell (p := ⟨g, i + 5, none⟩) hg v5
/-- What grow holds: the box of out, the box of least, the box of grow itself. -/
structure GBox (W : World) (ob lb gb : Nat) (v : Value) (least : Int) (fv : Value) : Prop where
  out : Blk W ob 51 #[v]
  lea : Blk W lb 3 #[.int .i64 least]
  fn : Blk W gb 97 #[fv]
/-- What grow does: out grows, in its box. -/
structure GM (B : Nat) (w W : World) (ob lb gb : Nat) (v0 v : Value) (out : List Br) (least : Int) (fv : Value) : Prop where
  bx : GBox W ob lb gb v least fv
  ou : BOwn B W v out
  at_ : ∀ k, v.ownBlock = some k → v0.ownBlock = some k ∨ w.heap.size ≤ k
  kp : Keep (fun k => k = ob ∨ v0.ownBlock = some k) w W
section
variable {B : Nat} {w W W' : World} {ob lb gb : Nat} {v0 v v' : Value} {out out' : List Br} {least : Int} {fv : Value} {b : Br}
theorem GM.start (h : GBox w ob lb gb v least fv) (ho : BOwn B w v out) : GM B w w ob lb gb v v out least fv := ⟨h, ho, fun _ e => .inl e, Keep.refl _ _⟩
theorem GBox.ne_ (h : GBox W ob lb gb v least fv) : lb ≠ ob ∧ gb ≠ ob := ⟨h.lea.ne_ h.out (by decide), h.fn.ne_ h.out (by decide)⟩
theorem GM.new_ (h : GM B w W ob lb gb v0 v out least fv) (hk : Keep No W W') : GM B w W' ob lb gb v0 v out least fv := ⟨⟨h.bx.out.keep hk (fun x => x), h.bx.lea.keep hk (fun x => x), h.bx.fn.keep hk (fun x => x)⟩, h.ou.keep hk (fun _ _ x => x), h.at_, h.kp.trans hk (fun _ x => x.elim)⟩
theorem GM.trans (h : GM B w W ob lb gb v0 v out least fv) (h' : GM B W W' ob lb gb v v' out' least fv) : GM B w W' ob lb gb v0 v' out' least fv :=
  ⟨h'.bx, h'.ou, fun k e => (h'.at_ k e).elim (fun e => h.at_ k e) (fun e => .inr (Nat.le_trans h.kp.size e)), h.kp.trans h'.kp (fun k e => e.elim (fun e => .inl (.inl e)) (fun e => (h.at_ k e).elim (fun e => .inl (.inr e)) .inr))⟩
theorem GM.pushb {o : Obj} (h : GM B w W ob lb gb v0 v out least fv) (hg : (W.alloc o).grownBy W' v.ownBlock) : Blk W' ob 51 #[v] := by
  have hk : Keep (fun k => v.ownBlock = some k) W W' := ((Keep.refl _ W).alloc o).grown hg (fun k e => .inl e)
  exact h.bx.out.keep hk (own_blk_ne h.ou h.bx.out (by decide))
/-- out with one more, and its box. -/
theorem GM.push {o : Obj} (h : GM B w W ob lb gb v0 v out least fv) (ho : W'.ownsRow B 57 6 v' (out.length + 1) (bcells out ++ b.cells)) (hg : (W.alloc o).grownBy W' v.ownBlock) (hat : v'.ownBlock = v.ownBlock ∨ v'.ownBlock = some (W.alloc o).heap.size) :
    GM B w (W'.setCell ⟨ob, 0, none⟩ v') ob lb gb v0 v' (out ++ [b]) least fv := by
  have hk : Keep (fun k => v.ownBlock = some k) W W' := ((Keep.refl _ W).alloc o).grown hg (fun k e => .inl e)
  have n1 : v.ownBlock ≠ some ob := own_blk_ne h.ou h.bx.out (by decide)
  have n2 : v.ownBlock ≠ some lb := own_blk_ne h.ou h.bx.lea (by decide)
  have n3 : v.ownBlock ≠ some gb := own_blk_ne h.ou h.bx.fn (by decide)
  have b1 := h.bx.out.keep hk n1
  have b2 := h.bx.lea.keep hk n2
  have b3 := h.bx.fn.keep hk n3
  have n4 : v'.ownBlock ≠ some ob := own_blk_ne ho b1 (by decide)
  have ks : Keep (fun k => k = ob) W' (W'.setCell ⟨ob, 0, none⟩ v') := (Keep.refl (fun k => k = ob) W').setCell (p := ⟨ob, 0, none⟩) (.inl rfl) _
  refine ⟨⟨?_, b2.keep ks h.bx.ne_.1, b3.keep ks h.bx.ne_.2⟩, ?_, fun k e => ?_, ?_⟩
  · have := b1.set_ 0 v'
    simpa using this
  · unfold BOwn
    rw [← bcells_push, List.length_append]
    exact own_keep ho ks (fun k e e2 => n4 (by rw [e, e2]))
  · rcases hat with e2 | e2
    · exact h.at_ k (e2 ▸ e)
    · rw [e2] at e
      injection e with e
      have := h.kp.size
      have := World.size_alloc W o
      exact .inr (by omega)
  · refine (h.kp.trans hk (fun k e => (h.at_ k e).elim (fun e => .inl (.inr e)) .inr)).trans ks (fun k e => .inl (.inl e))
/-- One of out is written. -/
theorem GM.put {g c : Nat} {pre suf : List Br} {b0 : Br} (h : GM B w W ob lb gb v0 (.slice (some ⟨g, 0, none⟩) (pre ++ b0 :: suf).length c) (pre ++ b0 :: suf) least fv) (b : Br) :
    GM B w ((((((W.setCell ⟨g, pre.length * 6, none⟩ (.int .i64 b.col)).setCell ⟨g, pre.length * 6 + 1, none⟩ (.int .i64 b.cut)).setCell ⟨g, pre.length * 6 + 2, none⟩ (.int .i64 b.low)).setCell ⟨g, pre.length * 6 + 3, none⟩ (.int .i64 b.high)).setCell ⟨g, pre.length * 6 + 4, none⟩ (.int .i64 b.label)).setCell ⟨g, pre.length * 6 + 5, none⟩ (.int .i64 b.rows)) ob lb gb v0 (.slice (some ⟨g, 0, none⟩) (pre ++ b0 :: suf).length c) (pre ++ b :: suf) least fv := by
  have ks : Keep (fun k => k = g) W ((((((W.setCell ⟨g, pre.length * 6, none⟩ (.int .i64 b.col)).setCell ⟨g, pre.length * 6 + 1, none⟩ (.int .i64 b.cut)).setCell ⟨g, pre.length * 6 + 2, none⟩ (.int .i64 b.low)).setCell ⟨g, pre.length * 6 + 3, none⟩ (.int .i64 b.high)).setCell ⟨g, pre.length * 6 + 4, none⟩ (.int .i64 b.label)).setCell ⟨g, pre.length * 6 + 5, none⟩ (.int .i64 b.rows)) := keep6 (Keep.refl (fun k => k = g) W) (.inl rfl) _ _ _ _ _ _ _
  have n1 : ob ≠ g := fun e => own_blk_ne h.ou h.bx.out (by decide) (e ▸ rfl)
  have n2 : lb ≠ g := fun e => own_blk_ne h.ou h.bx.lea (by decide) (e ▸ rfl)
  have n3 : gb ≠ g := fun e => own_blk_ne h.ou h.bx.fn (by decide) (e ▸ rfl)
  refine ⟨⟨h.bx.out.keep ks n1, h.bx.lea.keep ks n2, h.bx.fn.keep ks n3⟩, ?_, h.at_, h.kp.trans ks (fun k e => by subst e; exact (h.at_ k rfl).elim (fun e => .inl (.inr e)) .inr)⟩
  unfold BOwn
  rw [← bcells_set pre suf b0 b]
  have hl : (pre ++ b :: suf).length = (pre ++ b0 :: suf).length := by simp
  rw [hl]
  exact own_set (own_set (own_set (own_set (own_set (own_set h.ou _ _) _ _) _ _) _ _) _ _) _ _
end
end Go.Proofs.Ytgabidgpngiecaa
