/- Trees in memory: the nodes of a map, each in a block of its own. Conditions: none. -/
import Derived.Test.YtdmckjojeddaaaaC1
import Derived.Test.YtdmckjojeddaaaaP1
import Derived.Test.YtdmckjojeddaaaaKit
import Derived.OpenShut
namespace Go.Proofs.Ytdmckjojeddaaaa
open Go.RowKit Go.Proofs.YtdmckjojeddaaaaKit Go.Proofs.YtdmckjojeddaaaaPlain

/-! ### Coins are numbers of 64 bits -/
theorem wrap_u64_nonneg (x : Int) : 0 ≤ IntKind.u64.wrap x := (bounds_u64 (wf_wrap .u64 x)).1
theorem wrap_u64_lt (x : Int) : IntKind.u64.wrap x ≤ 18446744073709551615 := (bounds_u64 (wf_wrap .u64 x)).2
theorem coin_range (seed tag : Int) (bs : List UInt8) : 0 ≤ coin seed tag bs ∧ coin seed tag bs ≤ 18446744073709551615 := by
  unfold coin coinMix
  exact bounds_u64 (wf_bits .xor .u64 _ _)
theorem mark_nonneg (seed left right : Int) (k v : List UInt8) : 0 ≤ mark seed left k v right := (coin_range _ _ _).1

/-! ### Trees -/
inductive AT where
  | nil
  | node (b : Nat) (k v : List UInt8) (l r : AT)
def AT.ptr : AT → Option Addr
  | .nil => none
  | .node b _ _ _ _ => some ⟨b, 0, none⟩
def AT.blocks : AT → List Nat
  | .nil => []
  | .node b _ _ l r => b :: (l.blocks ++ r.blocks)
def AT.size : AT → Nat
  | .nil => 0
  | .node _ _ _ l r => 1 + l.size + r.size
def AT.sum (seed : Int) : AT → Int
  | .nil => 0
  | .node _ k v l r => mark seed (l.sum seed) k v (r.sum seed)
theorem AT.sum_nonneg (seed : Int) (t : AT) : 0 ≤ t.sum seed := by cases t <;> simp [AT.sum, mark_nonneg]
def height (seed : Int) (k : List UInt8) : Int := coin seed 3 k

def keyOk (k v : List UInt8) : Prop := 1 ≤ k.length ∧ k.length ≤ 64 ∧ v.length ≤ 1000

/-- A node's block, with what is in its last four fields. -/
def Node (base : Nat) (w : World) (seed : Int) (b : Nat) (k v : List UInt8) (lp rp : Option Addr) (sz dg : Int) : Prop :=
  base ≤ b ∧ keyOk k v ∧ ∃ A c B d, Blk w b 121 #[.slice A k.length c, .slice B v.length d, .int .u64 (height seed k), .pointer lp, .pointer rp, .int .i64 sz, .int .u64 dg] ∧
    Bytes base w A k.length k ∧ Bytes base w B v.length v
def Rep (base : Nat) (w : World) (seed : Int) : AT → Prop
  | .nil => True
  | .node b k v l r => Node base w seed b k v l.ptr r.ptr ((AT.node b k v l r).size : Nat) ((AT.node b k v l r).sum seed) ∧ Rep base w seed l ∧ Rep base w seed r

/-- Only a node's own block may have changed. -/
def Only (b : Nat) : Nat → Prop := fun k => k = b
def In (l : List Nat) : Nat → Prop := fun k => k ∈ l

section
variable {base : Nat} {w w1 : World} {seed : Int} {b : Nat} {k v : List UInt8} {lp rp : Option Addr} {sz dg : Int} {S : Nat → Prop} {t : AT}
theorem Node.blk (h : Node base w seed b k v lp rp sz dg) : ∃ cs, Blk w b 121 cs := by obtain ⟨_, _, A, c, B, d, hb, _⟩ := h; exact ⟨_, hb⟩
theorem Node.mut (h : Node base w seed b k v lp rp sz dg) : Mut base w b := by obtain ⟨h1, _, A, c, B, d, hb, _⟩ := h; exact hb.mut h1 rfl
theorem Node.lt (h : Node base w seed b k v lp rp sz dg) : b < w.heap.size := by obtain ⟨_, hb⟩ := h.blk; exact hb.lt
theorem Node.keep (h : Node base w seed b k v lp rp sz dg) (hk : Keep S w w1) (hs : ∀ b, S b → Mut base w b) (hn : ¬ S b) : Node base w1 seed b k v lp rp sz dg := by
  obtain ⟨h1, h2, A, c, B, d, hb, hk1, hv1⟩ := h
  exact ⟨h1, h2, A, c, B, d, hb.keep hk hn, hk1.keep hk hs, hv1.keep hk hs⟩
theorem Node.set3 (h : Node base w seed b k v lp rp sz dg) (u : Option Addr) : Node base (w.setCell ⟨b, 3, none⟩ (.pointer u)) seed b k v u rp sz dg := by
  have hm := h.mut
  obtain ⟨h1, h2, A, c, B, d, hb, hk1, hv1⟩ := h
  exact ⟨h1, h2, A, c, B, d, hb.set_ 3 _, hk1.setMut hm _, hv1.setMut hm _⟩
theorem Node.set4 (h : Node base w seed b k v lp rp sz dg) (u : Option Addr) : Node base (w.setCell ⟨b, 4, none⟩ (.pointer u)) seed b k v lp u sz dg := by
  have hm := h.mut
  obtain ⟨h1, h2, A, c, B, d, hb, hk1, hv1⟩ := h
  exact ⟨h1, h2, A, c, B, d, hb.set_ 4 _, hk1.setMut hm _, hv1.setMut hm _⟩
theorem Node.set5 (h : Node base w seed b k v lp rp sz dg) (u : Int) : Node base (w.setCell ⟨b, 5, none⟩ (.int .i64 u)) seed b k v lp rp u dg := by
  have hm := h.mut
  obtain ⟨h1, h2, A, c, B, d, hb, hk1, hv1⟩ := h
  exact ⟨h1, h2, A, c, B, d, hb.set_ 5 _, hk1.setMut hm _, hv1.setMut hm _⟩
theorem Node.set6 (h : Node base w seed b k v lp rp sz dg) (u : Int) : Node base (w.setCell ⟨b, 6, none⟩ (.int .u64 u)) seed b k v lp rp sz u := by
  have hm := h.mut
  obtain ⟨h1, h2, A, c, B, d, hb, hk1, hv1⟩ := h
  exact ⟨h1, h2, A, c, B, d, hb.set_ 6 _, hk1.setMut hm _, hv1.setMut hm _⟩
theorem Node.set1 (h : Node base w seed b k v lp rp sz dg) {v' : List UInt8} {B : Option Addr} {d : Nat} (hv : Bytes base w B v'.length v') (hl : v'.length ≤ 1000) : Node base (w.setCell ⟨b, 1, none⟩ (.slice B v'.length d)) seed b k v' lp rp sz dg := by
  have hm := h.mut
  obtain ⟨h1, h2, A, c, B0, d0, hb, hk1, hv1⟩ := h
  exact ⟨h1, ⟨h2.1, h2.2.1, hl⟩, A, c, B, d, hb.set_ 1 _, hk1.setMut hm _, hv.setMut hm _⟩
/-- A node's cells, as the walk asks them. -/
theorem Node.cells (h : Node base w seed b k v lp rp sz dg) : ∃ A c B d, Bytes base w A k.length k ∧ Bytes base w B v.length v ∧
    w.cell? ⟨b, 0, none⟩ = some (.slice A k.length c) ∧ w.cell? ⟨b, 1, none⟩ = some (.slice B v.length d) ∧ w.cell? ⟨b, 2, none⟩ = some (.int .u64 (height seed k)) ∧
    w.cell? ⟨b, 3, none⟩ = some (.pointer lp) ∧ w.cell? ⟨b, 4, none⟩ = some (.pointer rp) ∧ w.cell? ⟨b, 5, none⟩ = some (.int .i64 sz) ∧ w.cell? ⟨b, 6, none⟩ = some (.int .u64 dg) := by
  obtain ⟨h1, h2, A, c, B, d, hb, hk1, hv1⟩ := h
  exact ⟨A, c, B, d, hk1, hv1, hb.cell 0, hb.cell 1, hb.cell 2, hb.cell 3, hb.cell 4, hb.cell 5, hb.cell 6⟩
theorem Node.frozen (h : Node base w seed b k v lp rp sz dg) (i : Nat) : w.frozen? ⟨b, i, none⟩ = false := by obtain ⟨_, hb⟩ := h.blk; exact hb.frozen i
theorem Rep.root {l r : AT} (h : Rep base w seed (.node b k v l r)) : Node base w seed b k v l.ptr r.ptr ((AT.node b k v l r).size : Nat) ((AT.node b k v l r).sum seed) := h.1
theorem Rep.mut : ∀ {t : AT}, Rep base w seed t → ∀ b ∈ t.blocks, Mut base w b
  | .nil, _, b, hb => by cases hb
  | .node b0 k v l r, h, b, hb => by
    rcases List.mem_cons.1 hb with e | hb
    · subst e; exact h.1.mut
    · rcases List.mem_append.1 hb with hb | hb
      · exact Rep.mut h.2.1 b hb
      · exact Rep.mut h.2.2 b hb
theorem Rep.keep : ∀ {t : AT}, Rep base w seed t → Keep S w w1 → (∀ b, S b → Mut base w b) → (∀ b ∈ t.blocks, ¬ S b) → Rep base w1 seed t
  | .nil, _, _, _, _ => trivial
  | .node b0 k v l r, h, hk, hs, hn => ⟨h.1.keep hk hs (hn b0 (by simp [AT.blocks])), Rep.keep h.2.1 hk hs (fun b hb => hn b (by simp [AT.blocks, hb])), Rep.keep h.2.2 hk hs (fun b hb => hn b (by simp [AT.blocks, hb]))⟩
theorem Rep.new_ (h : Rep base w seed t) (hk : Keep No w w1) : Rep base w1 seed t := h.keep hk (fun _ x => x.elim) (fun _ _ x => x)
theorem Rep.lt (h : Rep base w seed t) {b : Nat} (hb : b ∈ t.blocks) : b < w.heap.size := by
  obtain ⟨_, cs, ty, f, e, _⟩ := h.mut b hb
  rcases Nat.lt_or_ge b w.heap.size with h1 | h1
  · exact h1
  · rw [Array.getElem?_eq_none h1] at e; cases e
theorem Rep.ge (h : Rep base w seed t) {b : Nat} (hb : b ∈ t.blocks) : base ≤ b := (h.mut b hb).1
end

/-! ### Small readers of nodes -/
section
variable {base : Nat} {w : World} {seed : Int} {t : AT}
theorem ptr_nil : (AT.nil).ptr = none := rfl
theorem ptr_node {b : Nat} {k v : List UInt8} {l r : AT} : (AT.node b k v l r).ptr = some ⟨b, 0, none⟩ := rfl

set_option maxHeartbeats 400000 in
theorem count_any (h : Rep base w seed t) : Calls Try.prog 68 #[.pointer t.ptr] w fun e w' => e = .returned (.int .i64 (t.size : Nat)) ∧ w = w' := by
  cases t with
  | nil =>
    rw [ptr_nil]
    go_enter Try.func68, Try.ntmps68
    go_wp2
    go_ret
    exact ⟨rfl, rfl⟩
  | node b k v l r =>
    rw [ptr_node]
    obtain ⟨A, c, B, d, _, _, c0, c1, c2, c3, c4, c5, c6⟩ := h.root.cells
    clear c0 c1 c2 c3 c4 c6 h
    generalize ((AT.node b k v l r).size : Nat) = n at *
    go_enter Try.func68, Try.ntmps68
    go_wp2
    go_ret
    exact ⟨rfl, rfl⟩
set_option maxHeartbeats 400000 in
theorem sum_any (h : Rep base w seed t) : Calls Try.prog 70 #[.pointer t.ptr] w fun e w' => e = .returned (.int .u64 (t.sum seed)) ∧ w = w' := by
  cases t with
  | nil =>
    rw [ptr_nil]
    go_enter Try.func70, Try.ntmps70
    go_wp2
    go_ret
    exact ⟨rfl, rfl⟩
  | node b k v l r =>
    rw [ptr_node]
    obtain ⟨A, c, B, d, _, _, c0, c1, c2, c3, c4, c5, c6⟩ := h.root.cells
    clear c0 c1 c2 c3 c4 c5 h
    generalize (AT.node b k v l r).sum seed = n at *
    go_enter Try.func70, Try.ntmps70
    go_wp2
    go_ret
    exact ⟨rfl, rfl⟩
end
end Go.Proofs.Ytdmckjojeddaaaa
