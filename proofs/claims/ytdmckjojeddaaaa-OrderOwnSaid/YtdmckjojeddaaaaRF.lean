/- A range over a function whose iterator hands out new memory: what the iterator owes, what a round owes, and the law of the statement. Conditions: none. -/
import Derived.Test.YtdmckjojeddaaaaKit
import Derived.Test.YtdmckjojeddaaaaU9
import Derived.Test.YtdmckjojeddaaaaT9
import Derived.RangeFuncNested
import Derived.RangeFuncBound
import Derived.RangeFuncCalls
import Derived.RangeFuncLeaves
import Derived.Shelf.Abstract
import Derived.WalkKit
import Derived.OwnWalkIn
import Derived.TacticsInMore
import Derived.LoopNIn
import Derived.LoopIn
namespace Go.Proofs.YtdmckjojeddaaaaKit
open Go.RowKit

/-- Blocks that hold no cells: the records of loops and their like. -/
def NoCells (A : World) (S : Nat → Prop) : Prop := ∀ b, S b → ∃ o, A.heap[b]? = some o ∧ o.isCells = false
/-- What a statement says of cells alone outlives new blocks and turns of records from B0 on. -/
def Stable {β : Type} (B0 : Nat) (I : β → World → Prop) : Prop := ∀ s A B S, I s A → Keep S A B → NoCells A S → (∀ b, S b → B0 ≤ b) → I s B
theorem Stable.new_ {β : Type} {B0 : Nat} {I : β → World → Prop} (h : Stable B0 I) {s : β} {A B : World} (hi : I s A) (hk : Keep No A B) : I s B := h s A B No hi hk (fun _ x => x.elim) (fun _ x => x.elim)
theorem keep_putObj (W : World) (l : Nat) (o : Obj) : Keep (fun b => b = l) W (W.putObj l o) := ⟨rfl, rfl, rfl, by simp, fun _ _ hn => World.putObj_heap_other hn⟩
theorem noCells_loop {A : World} {l : Nat} {r : Loop} (h : A.heap[l]? = some (.loop r)) : NoCells A (fun b => b = l) := fun b e => by subst e; exact ⟨_, h, rfl⟩
theorem loop_lt {A : World} {l : Nat} {o : Obj} (h : A.heap[l]? = some o) : l < A.heap.size := (Array.getElem?_eq_some_iff.1 h).1

/-- An iterator: at each round it promises M; a round may write whatever was laid before the iterator began, and what is handed out. -/
def SeqR {α : Type} (F : Fence) (n : Nat) (P : Program) (g : Nat) (lb : Array Value) (enc : α → Array Value) (sp : α → Nat → Prop) (M : List α → α → World → Prop) (Fin Part : List α → Prop) (w : World) : Prop :=
  ∀ (l : Nat) (J Jx : List α → World → Prop) (W : World), Keep No w W → (∀ s A B, J s A → Keep No A B → J s B) → (∀ s A B, Jx s A → Keep No A B → Jx s B) →
    (∀ pre x W1, J pre W1 → M pre x W1 → (∀ b, sp x b → W.heap.size ≤ b) → YieldAt F (n - 1) P l (enc x) W1 fun e W' =>
      (e = .returned (.bool true) ∧ J (pre ++ [x]) W' ∧ Keep (fun b => b < W.heap.size ∨ sp x b) W1 W') ∨ (e = .returned (.bool false) ∧ Jx (pre ++ [x]) W')) →
    J [] W →
    CallsIn F n P g (#[.func (.yield l) #[] #[]] ++ lb) W fun e W' => (∃ v, e = .returned v) ∧ ((∃ xs, Fin xs ∧ J xs W') ∨ (∃ pre, Part pre ∧ Jx pre W'))

/-- How the body of a round may be left. -/
def RoundEnd {α : Type} (B : Nat) (s : Nat → Prop) (I : List α → World → Prop) (Ix : Code → List α → World → Prop) (xs : List α) (W : World) : Exit → Act → World → Prop
  | .normal, _, W' => Keep (fun b => b < B ∨ s b) W W' ∧ I xs W'
  | .ret, _, W' => Keep (fun b => b < B ∨ s b) W W' ∧ Ix .ret xs W'
  | .exit id, _, W' => Keep (fun b => b < B ∨ s b) W W' ∧ Ix (.exit id) xs W'
  | .goto t, _, W' => Keep (fun b => b < B ∨ s b) W W' ∧ Ix (.goto t) xs W'
  | .panic _, _, _ => False
  | .outgrown, _, _ => False

section
variable {F : Fence} {n : Nat} {P : Program}
theorem wpIn_rangeR {α : Type} {g : Operand} {ps : Array Tmp} {assign body : Code} {Q : Exit → Act → World → Prop} {a : Act} {w : World} (hro : F.round = none) (h1 : 1 ≤ n) {gf : Nat} {lb : Array Value} (hg : a.eval g = .func (.func gf) #[] lb) (hFg : F.fn gf)
    (eg : ∀ args w, (callFunc gf args).run P w = .ok (.enter gf args) w) {enc : α → Array Value} {sp : α → Nat → Prop} {M : List α → α → World → Prop} {Fin Part : List α → Prop} (hseq : SeqR F (n - 1) P gf lb enc sp M Fin Part w) (hps : ∀ x, (enc x).size = ps.size)
    (hM : Stable w.heap.size (fun (s : List α × α) W => M s.1 s.2 W)) (I : List α → World → Prop) (Ix : Code → List α → World → Prop) (hI : Stable w.heap.size I) (hIx : ∀ c, Stable w.heap.size (Ix c)) (h0 : I [] w) (a₁ : α → Act)
    (hassign : ∀ (l : Nat) (x : α) (W : World) (K : Act → World → Prop), K (a₁ x) W → assign.wpIn (F.inRound l) (n - 1 - 1) P (Exit.then K (fun _ _ _ => False)) { tmps := (ps.zip (enc x)).foldl (fun t (p, v) => t.setIfInBounds p v) a.tmps, defers := [] } W)
    (hbody : ∀ (l : Nat) (pre : List α) (x : α) (W : World), I pre W → M pre x W → (∀ b, sp x b → w.heap.size + 2 ≤ b) → w.heap.size + 2 ≤ W.heap.size → body.wpIn (F.inRound l) (n - 1 - 1) P (RoundEnd w.heap.size (sp x) I Ix (pre ++ [x]) W) (a₁ x) W)
    (hdone : ∀ (D : Nat) (xs : List α) (W : World), w.heap.size ≤ D → Fin xs → I xs W → W.heap[D]? = some (.deferred (some [])) → Q .normal { a with defers := { target := .collected D, args := #[] } :: a.defers } W)
    (hstop : ∀ (D : Nat) (c : Code) (pre : List α) (W : World), w.heap.size ≤ D → Part pre → Ix c pre W → W.heap[D]? = some (.deferred (some [])) → c.wpIn F n P Q { a with defers := { target := .collected D, args := #[] } :: a.defers } W) :
    (Code.rangeFunc g ps assign body).wpIn F n P Q a w := by
  refine wpIn_rangeFunc fun fn hfn => ?_
  rw [hro]
  obtain ⟨rc, hrc⟩ : ∃ rc : LoopState → Option Code → Loop, rc = fun st pe => { state := st, pending := pe, fn, tmps := a.tmps, params := ps, assign, body, defers := w.heap.size } := ⟨_, rfl⟩
  obtain ⟨W0, hW0⟩ : ∃ W0, (w.alloc (.deferred (some []))).alloc (.loop { state := .ready, pending := none, fn, tmps := a.tmps, params := ps, assign, body, defers := w.heap.size }) = W0 := ⟨_, rfl⟩
  have hsize : W0.heap.size = w.heap.size + 2 := by rw [← hW0]; simp
  have hK : Keep No w W0 := hW0 ▸ ((Keep.refl No w).alloc _).alloc _
  have hL0 : W0.heap[w.heap.size + 1]? = some (.loop (rc .ready none)) := by
    rw [← hW0, hrc]
    have := World.alloc_heap_new (w.alloc (.deferred (some []))) (.loop { state := .ready, pending := none, fn, tmps := a.tmps, params := ps, assign, body, defers := w.heap.size })
    rwa [World.size_alloc] at this
  have hD0 : W0.heap[w.heap.size]? = some (.deferred (some [])) := by
    rw [← hW0]
    exact (((Keep.refl No (w.alloc (.deferred (some [])))).alloc _).block w.heap.size (by simp) (fun x => x)).trans (World.alloc_heap_new w _)
  have hent := run_enterLoop_outer (P := P) (w := w) fn a.tmps ps assign body
  rw [hW0] at hent
  refine ⟨w.heap.size + 1, _, W0, { target := .fn (.func gf) lb, args := #[.func (.yield (w.heap.size + 1)) #[] #[]] }, W0, gf, #[.func (.yield (w.heap.size + 1)) #[] #[]] ++ lb, W0, hent, ?_, ?_, ?_, fun _ => h1, ?_⟩
  · simp only [resolve, hg]; simp [go_sem]
  · intro f' hf'; simp [Target.leads] at hf'; subst hf'; exact hFg
  · simp [invoke, go_sem, eg]
  refine (hseq (w.heap.size + 1) (fun pre W => I pre W ∧ W.heap[w.heap.size + 1]? = some (.loop (rc .ready none)) ∧ W.heap[w.heap.size]? = some (.deferred (some [])))
    (fun pre W => ∃ c, Ix c pre W ∧ W.heap[w.heap.size + 1]? = some (.loop (rc .done (some c))) ∧ W.heap[w.heap.size]? = some (.deferred (some []))) W0 hK ?_ ?_ ?_ ⟨hI.new_ h0 hK, hL0, hD0⟩).mono ?_
  · rintro s A B ⟨h1, h2, h3⟩ hk
    exact ⟨hI.new_ h1 hk, (hk.block _ (loop_lt h2) (fun x => x)).trans h2, (hk.block _ (loop_lt h3) (fun x => x)).trans h3⟩
  · rintro s A B ⟨c, h1, h2, h3⟩ hk
    exact ⟨c, (hIx c).new_ h1 hk, (hk.block _ (loop_lt h2) (fun x => x)).trans h2, (hk.block _ (loop_lt h3) (fun x => x)).trans h3⟩
  · rintro pre x W ⟨hi, hl, hd⟩ hm hlo
    have hlt := loop_lt hl
    have hy := run_yield (P := P) (args := enc x) hl (by rw [hrc]; exact hps x)
    rw [hrc] at hy
    rw [hsize] at hlo
    refine ⟨fn, _, assign, body, hy, roundIn_of_wpIn hfn (hassign _ x W _ ⟨_, run_beginRound hl (by rw [hrc]), ?_⟩)⟩
    obtain ⟨Wb, hWb⟩ : ∃ Wb, W.putObj (w.heap.size + 1) (.loop { rc .ready none with state := .busy }) = Wb := ⟨_, rfl⟩
    have hkb : Keep (fun b => b = w.heap.size + 1) W Wb := hWb ▸ keep_putObj _ _ _
    have hlb : Wb.heap[w.heap.size + 1]? = some (.loop { rc .ready none with state := .busy }) := hWb ▸ World.putObj_heap_same hlt
    have hdb : Wb.heap[w.heap.size]? = some (.deferred (some [])) := (hkb.block _ (loop_lt hd) (by omega)).trans hd
    have hib : I pre Wb := hI _ _ _ _ hi hkb (noCells_loop hl) (fun b (e : b = w.heap.size + 1) => by omega)
    have hmb : M pre x Wb := hM (pre, x) _ _ _ hm hkb (noCells_loop hl) (fun b (e : b = w.heap.size + 1) => by omega)
    rw [hWb]
    refine wpIn_mono (hbody _ pre x Wb hib hmb hlo (by have := loop_lt hlb; omega)) ?_
    have fin : ∀ (jump : Option Code) (W3 : World), Keep (fun b => b < w.heap.size ∨ sp x b) Wb W3 →
        ∃ W4, (Instr.endRound (w.heap.size + 1) jump).run P W3 = .ok (.bool jump.isNone) W4 ∧ Keep (fun b => b = w.heap.size + 1) W3 W4 ∧ NoCells W3 (fun b => b = w.heap.size + 1) ∧
          W4.heap[w.heap.size + 1]? = some (.loop (rc (if jump.isNone then .ready else .done) jump)) ∧ W4.heap[w.heap.size]? = some (.deferred (some [])) := fun jump W3 hk3 => by
      have hl3 := (hk3.block _ (loop_lt hlb) (fun h => h.elim (fun h => by omega) (fun h => by have := hlo _ h; omega))).trans hlb
      have hd3 := (hk3.block _ (loop_lt hdb) (fun h => h.elim (fun h => by omega) (fun h => by have := hlo _ h; omega))).trans hdb
      have hr := run_endRound (P := P) jump hl3
      refine ⟨_, hr, keep_putObj _ _ _, noCells_loop hl3, ?_, (World.putObj_heap_other (by omega)).trans hd3⟩
      rw [World.putObj_heap_same (loop_lt hl3), hrc]
    intro e a3 W3 hp
    cases e with
    | normal =>
      obtain ⟨hk3, hi3⟩ := hp
      obtain ⟨W4, hr, hk4, hn4, hl4, hd4⟩ := fin none W3 hk3
      refine ⟨_, W4, hr, .inl ⟨rfl, ⟨hI _ _ _ _ hi3 hk4 hn4 (fun b (e : b = w.heap.size + 1) => by omega), hl4, hd4⟩, ?_⟩⟩
      rw [hsize]
      exact ((hkb.mono (S' := fun b => b < w.heap.size + 2 ∨ sp x b) (fun b e => .inl (by omega))).trans hk3 (fun b e => .inl (e.elim (fun h => .inl (by omega)) .inr))).trans hk4 (fun b e => .inl (.inl (by omega)))
    | ret =>
      obtain ⟨hk3, hi3⟩ := hp
      obtain ⟨W4, hr, hk4, hn4, hl4, hd4⟩ := fin (some .ret) W3 hk3
      exact ⟨_, W4, hr, .inr ⟨rfl, .ret, hIx _ _ _ _ _ hi3 hk4 hn4 (fun b (e : b = w.heap.size + 1) => by omega), hl4, hd4⟩⟩
    | exit id =>
      obtain ⟨hk3, hi3⟩ := hp
      obtain ⟨W4, hr, hk4, hn4, hl4, hd4⟩ := fin (some (.exit id)) W3 hk3
      exact ⟨_, W4, hr, .inr ⟨rfl, .exit id, hIx _ _ _ _ _ hi3 hk4 hn4 (fun b (e : b = w.heap.size + 1) => by omega), hl4, hd4⟩⟩
    | goto t =>
      obtain ⟨hk3, hi3⟩ := hp
      obtain ⟨W4, hr, hk4, hn4, hl4, hd4⟩ := fin (some (.goto t)) W3 hk3
      exact ⟨_, W4, hr, .inr ⟨rfl, .goto t, hIx _ _ _ _ _ hi3 hk4 hn4 (fun b (e : b = w.heap.size + 1) => by omega), hl4, hd4⟩⟩
    | panic ch => exact hp.elim
    | outgrown => exact hp.elim
  · rintro e W2 ⟨⟨v, rfl⟩, (⟨xs, hF, hi, hl, hd⟩ | ⟨pre, hp, c, hi, hl, hd⟩)⟩
    · have hr := run_endLoop (P := P) hl (by rw [hrc]; simp)
      have hp : (rc .ready none).pending = none := by rw [hrc]
      rw [hp] at hr
      exact ⟨none, _, hr, hdone _ xs _ (Nat.le_refl _) hF (hI _ _ _ _ hi (keep_putObj _ _ _) (noCells_loop hl) (fun b (e : b = w.heap.size + 1) => by omega)) ((World.putObj_heap_other (by omega)).trans hd)⟩
    · have hr := run_endLoop (P := P) hl (by rw [hrc]; simp)
      have hp' : (rc .done (some c)).pending = some c := by rw [hrc]
      rw [hp'] at hr
      exact ⟨some c, _, hr, hstop _ c pre _ (Nat.le_refl _) hp (hIx c _ _ _ _ hi (keep_putObj _ _ _) (noCells_loop hl) (fun b (e : b = w.heap.size + 1) => by omega)) ((World.putObj_heap_other (by omega)).trans hd)⟩
end
end Go.Proofs.YtdmckjojeddaaaaKit

namespace Go.Proofs.Ytdmckjojeddaaaa
open Go.RowKit Go.Proofs.YtdmckjojeddaaaaKit Go.Proofs.YtdmckjojeddaaaaPlain

/-- What comes at a round: a pair, and where its bytes lie: from lo on and below mid; from top on lies nothing of the iterator's. -/
structure Came where
  k : List UInt8
  v : List UInt8
  A : Option Addr
  c : Nat
  B : Option Addr
  d : Nat
  lo : Nat
  mid : Nat
  top : Nat
def Came.pr (x : Came) : Pair := (x.k, x.v)
def Came.cs (x : Came) : List Value := [.slice x.A x.k.length x.c, .slice x.B x.v.length x.d]
def Came.enc (x : Came) : Array Value := #[.slice x.A x.k.length x.c, .slice x.B x.v.length x.d]
def Came.sp (x : Came) (b : Nat) : Prop := (Value.slice x.A x.k.length x.c).ownBlock = some b ∨ (Value.slice x.B x.v.length x.d).ownBlock = some b ∨ x.top ≤ b
def prs (xs : List Came) : List Pair := xs.map Came.pr
/-- What the iterator promises of memory at a round. -/
def Came.M (l : List Pair) (B : Nat) (pre : List Came) (x : Came) (W : World) : Prop := prs (pre ++ [x]) <+: l ∧ B ≤ x.lo ∧ PairAt W x.lo x.mid x.pr x.cs ∧ x.lo ≤ x.mid ∧ x.mid ≤ x.top ∧ x.top ≤ W.heap.size ∧ (∀ y ∈ pre, y.mid ≤ x.lo ∧ y.top = x.top)

section
variable {w w1 : World} {lo mid hi B k c : Nat} {p : Pair} {cs : List Value} {l : List Pair} {xs : List Value} {S : Nat → Prop} {A : Option Addr}
theorem own_keepGe {w w1 : World} {base e size n : Nat} {v : Value} {xs : List Value} (h : w.ownsRow base e size v n xs) (hk : Keep S w w1) (hs : ∀ b, base ≤ b → ¬ S b) : w1.ownsRow base e size v n xs :=
  own_keep h hk (fun k e => hs k (World.ownsRow.lt h k e).1)
theorem PairAt.keepGe (h : PairAt w lo hi p cs) (hk : Keep S w w1) (hs : ∀ b, lo ≤ b → ¬ S b) : PairAt w1 lo hi p cs := by
  obtain ⟨A, c, B, d, e, h1, h2, h3⟩ := h
  exact ⟨A, c, B, d, e, own_keepGe h1 hk hs, own_keepGe h2 hk hs, h3⟩
theorem FlatI.keepGe (h : FlatI w lo l xs hi) (hk : Keep S w w1) (hs : ∀ b, lo ≤ b → ¬ S b) : FlatI w1 lo l xs hi := by
  induction l generalizing lo xs with
  | nil => exact h
  | cons p l ih =>
    obtain ⟨mid, cs, ys, e, h1, h2, h3⟩ := h
    exact ⟨mid, cs, ys, e, h1, h2.keepGe hk hs, ih h3 (fun b hb => hs b (Nat.le_trans h1 hb))⟩
theorem PairAt.keepHi (h : PairAt w lo hi p cs) (hk : Keep S w w1) (hs : ∀ b, lo ≤ b → b < hi → ¬ S b) : PairAt w1 lo hi p cs := by
  obtain ⟨A, c, B, d, e, h1, h2, h3, h4, h5⟩ := h
  exact ⟨A, c, B, d, e, own_keep h1 hk (fun k e => hs k (World.ownsRow.lt h1 k e).1 (h3 k e)), own_keep h2 hk (fun k e => hs k (World.ownsRow.lt h2 k e).1 (h4 k e)), h3, h4, h5⟩
theorem FlatI.keepHi (h : FlatI w lo l xs hi) (hk : Keep S w w1) (hs : ∀ b, lo ≤ b → b < hi → ¬ S b) : FlatI w1 lo l xs hi := by
  induction l generalizing lo xs with
  | nil => exact h
  | cons p l ih =>
    obtain ⟨mid, cs, ys, e, h1, h2, h3⟩ := h
    exact ⟨mid, cs, ys, e, h1, h2.keepHi hk (fun b hb hb' => hs b hb (Nat.lt_of_lt_of_le hb' h3.le)), ih h3 (fun b hb => hs b (Nat.le_trans h1 hb))⟩
theorem own_keepNC {base e size n : Nat} {v : Value} (h : w.ownsRow base e size v n xs) (hk : Keep S w w1) (hs : NoCells w S) : w1.ownsRow base e size v n xs := own_keep h hk fun k e hS => by
  obtain ⟨o, ho, hc⟩ := hs k hS
  rcases h.2 with ⟨rfl, _⟩ | ⟨g, cap, cur, rfl, _, h4, _⟩
  · simp [Value.ownBlock] at e
  · simp [Value.ownBlock] at e
    subst e
    rw [h4] at ho
    injection ho with ho
    subst ho
    simp [Obj.isCells] at hc
theorem PairAt.keepNC (h : PairAt w lo hi p cs) (hk : Keep S w w1) (hs : NoCells w S) : PairAt w1 lo hi p cs := by
  obtain ⟨A, c, B, d, e, h1, h2, h3⟩ := h
  exact ⟨A, c, B, d, e, own_keepNC h1 hk hs, own_keepNC h2 hk hs, h3⟩
theorem Came.stable {B0 : Nat} : Stable B0 (fun (s : List Came × Came) W => Came.M l B s.1 s.2 W) := fun _ _ _ _ h hk hn _ => by
  obtain ⟨h1, h2, h3, h4, h5, h6, h7⟩ := h
  exact ⟨h1, h2, h3.keepNC hk hn, h4, h5, Nat.le_trans h6 hk.size, h7⟩

/-- The pairs from k on still lie as they were laid, all below T. -/
def SeqSt (B T k : Nat) (l : List Pair) (A : Option Addr) (c : Nat) (pre : List Came) (w : World) : Prop :=
  ∃ xs lo, w.ownsRow B 82 2 (.slice A l.length c) l.length xs ∧ (∀ b, (Value.slice A l.length c).ownBlock = some b → b < T) ∧ B ≤ lo ∧ FlatI w lo (l.drop k) (xs.drop (k * 2)) T ∧ T ≤ w.heap.size ∧ ∀ y ∈ pre, y.mid ≤ lo ∧ y.top = T
theorem SeqSt.start (h : OwnPI B l (.slice A l.length c) w) : SeqSt B w.heap.size 0 l A c [] w := by
  obtain ⟨xs, h1, h2⟩ := h
  exact ⟨xs, B, h1, fun b e => (World.ownsRow.lt h1 b e).2, Nat.le_refl _, by simpa using h2, Nat.le_refl _, fun y hy => absurd hy (by simp)⟩
/-- The pair at k, and what a round leaves of the rest. -/
theorem SeqSt.at_ {T : Nat} {pre : List Came} (h : SeqSt B T k l A c pre w) (hk : k < l.length) : ∃ ad x, A = some ad ∧ Imm 0 82 w ad.block ∧ Came.pr x = l[k] ∧
    w.cell? (ad.add (k * 2)) = some (.slice x.A x.k.length x.c) ∧ w.cell? ⟨(ad.add (k * 2)).block, (ad.add (k * 2)).off + 1, none⟩ = some (.slice x.B x.v.length x.d) ∧
    (B ≤ x.lo ∧ PairAt w x.lo x.mid x.pr x.cs ∧ x.lo ≤ x.mid ∧ x.mid ≤ x.top ∧ x.top ≤ w.heap.size ∧ (∀ y ∈ pre, y.mid ≤ x.lo ∧ y.top = x.top)) ∧ (∀ b, x.sp b → B ≤ b) ∧ ∀ w2, Keep (fun b => b < B ∨ x.sp b) w w2 → SeqSt B T (k + 1) l A c (pre ++ [x]) w2 := by
  obtain ⟨xs, lo, h1, hT, h2, h3, hT2, hy⟩ := h
  rw [List.drop_eq_getElem_cons hk] at h3
  obtain ⟨mid, cs, ys, e, h4, ⟨A1, c1, B1, d1, rfl, hp⟩, h6⟩ := h3
  obtain ⟨ad, ea, him, hc⟩ := (Reads.of_own (base := 0) h1 rfl).2 (by omega)
  have hmT := h6.le
  have g0 : xs[k * 2]? = some (.slice A1 l[k].1.length c1) := by
    have := congrArg (fun l => l[0]?) e
    simpa using this
  have g1 : xs[k * 2 + 1]? = some (.slice B1 l[k].2.length d1) := by
    have := congrArg (fun l => l[1]?) e
    simpa using this
  refine ⟨ad, ⟨l[k].1, l[k].2, A1, c1, B1, d1, lo, mid, T⟩, ea, him, rfl, hc _ _ g0, ?_, ⟨h2, ⟨A1, c1, B1, d1, rfl, hp⟩, h4, hmT, hT2, hy⟩, ?_, ?_⟩
  · rw [add_field _ _ 1 (by omega)]
    exact hc _ _ g1
  · rintro b (hb | hb | hb)
    · exact Nat.le_trans h2 (World.ownsRow.lt hp.1 b hb).1
    · exact Nat.le_trans h2 (World.ownsRow.lt hp.2.1 b hb).1
    · exact Nat.le_trans (Nat.le_trans h2 (Nat.le_trans h4 hmT)) hb
  · intro w2 hk2
    have hys : xs.drop ((k + 1) * 2) = ys := by
      rw [Nat.succ_mul, ← List.drop_drop, e]; rfl
    have hblk : ∀ x, (Value.slice A l.length c).ownBlock = some x → ∃ cs t f, w.heap[x]? = some (.cells cs t f) ∧ t ≠ 5 := fun x ex => by
      rcases h1.2 with ⟨h0, _⟩ | ⟨g, cap, cur, h0, _, h8, _⟩
      · rw [h0] at ex; simp [Value.ownBlock] at ex
      · rw [h0] at ex; simp [Value.ownBlock] at ex; subst ex; exact ⟨cur, _, _, h8, by decide⟩
    rw [← hys] at h6
    refine ⟨xs, mid, own_keep h1 hk2 ?_, hT, Nat.le_trans h2 h4, FlatI.keepHi h6 hk2 ?_, Nat.le_trans hT2 hk2.size, ?_⟩
    · rintro b e1 (hb | hb | hb | hb)
      · have := (World.ownsRow.lt h1 b e1).1; omega
      · exact own_noBytes hp.1 (S := fun x => (Value.slice A l.length c).ownBlock = some x) hblk b hb e1
      · exact own_noBytes hp.2.1 (S := fun x => (Value.slice A l.length c).ownBlock = some x) hblk b hb e1
      · have := hT b e1
        exact absurd hb (Nat.not_le.2 this)
    · rintro b hb hbT (h7 | h7 | h7 | h7)
      · omega
      · have := hp.2.2.1 b h7; omega
      · have := hp.2.2.2.1 b h7; omega
      · exact absurd h7 (Nat.not_le.2 hbT)
    · intro y hy'
      rcases List.mem_append.1 hy' with h9 | h9
      · exact ⟨Nat.le_trans (hy y h9).1 h4, (hy y h9).2⟩
      · simp at h9; subst h9; exact ⟨Nat.le_refl _, rfl⟩
end

set_option maxHeartbeats 1000000 in
theorem all_any (v : Option Addr) (w : World) : Calls Try.prog 41 #[.pointer v] w fun e w' =>
    e = .returned (.func (.func 79) #[] #[.pointer (some ⟨w.heap.size, 0, none⟩)]) ∧ w' = w.alloc (.cells #[.pointer v] 38) := by
  go_enter Try.func41, Try.ntmps41
  go_wp2
  go_ret
  exact ⟨rfl, rfl⟩



set_option maxHeartbeats 2000000 in
set_option maxRecDepth 100000 in
theorem seq_any {base : Nat} {w : World} {mb : Nat} {seed : Int} {l : List Pair} {F : List Nat} {n bx : Nat} (hn : 1 ≤ n) (h : MSt base w mb seed l F) (hb : base ≤ w.heap.size) (hsz : l.length ≤ 1000000) (hbx : w.cell? ⟨bx, 0, none⟩ = some (.pointer (some ⟨mb, 0, none⟩))) (hbl : bx < w.heap.size) :
    SeqR Fence.wide n Try.prog 79 #[.pointer (some ⟨bx, 0, none⟩)] Came.enc Came.sp (Came.M l w.heap.size) (fun xs => prs xs = l) (fun pre => prs pre <+: l) w := by
  intro y J Jx W hW hJ hJx hY h0
  have hsz0 := hW.size
  obtain ⟨t, hO, hwf, htl, hF⟩ := h.new_ hW
  have hcell : W.cell? ⟨bx, 0, none⟩ = some (.pointer (some ⟨mb, 0, none⟩)) := (hW.cell (p := ⟨bx, 0, none⟩) hbl (fun x => x)).trans hbx
  have HR := Lib.hid (real_any hO.has)
  obtain ⟨_, _, m2⟩ := hO.has.cells
  have HORD := Lib.hid (ordered_any (base := base) (Nat.le_trans hb hsz0) t hO.rep W [] (.slice none 0 0) (Keep.refl _ _) (OwnPI.start (Nat.le_refl _)) (by rw [← toList_length, htl]; simpa using hsz))
  rw [htl, List.nil_append] at HORD
  have HJ := Lib.hid hJ
  have HY := Lib.hid hY
  have H0 := Lib.hid h0
  clear h hO hwf htl hF hJ hY h0 hJx hW
  refine callsIn_of_wp Try.func79 rfl trivial ?_ rfl
  simp only [Try.ntmps79, List.size_toArray, List.length_cons, List.length_nil, Nat.reduceAdd, Nat.reduceSub, Array.replicate_succ, Array.replicate_zero, List.push_toArray, List.append_toArray, List.nil_append, List.cons_append]
  gi_wp2_with (first
    | (refine ⟨trivial, ?_⟩; gi_at_call 64; refine (callsIn_wide.2 HR.out).mono ?_; rintro e w' ⟨rfl, rfl⟩; clear HR)
    | (refine ⟨trivial, ?_⟩; gi_at_call 80; refine (callsIn_wide.2 HORD.out).mono ?_; rintro e w1 ⟨A1, c1, rfl, hc1, O1, hk1⟩))
  have HO := Lib.hid (show _ ∧ _ from ⟨SeqSt.start O1, hk1⟩)
  clear O1 hcell m2 HORD
  gi_loopw [14] (fun v14 wr => ∃ (k : Nat) (pre : List Came), k ≤ l.length ∧ v14 = .int .i64 k ∧ Hid (prs pre = l.take k) ∧ Hid (SeqSt W.heap.size w1.heap.size k l A1 c1 pre wr) ∧ Hid (J pre wr)) (fun i _ => l.length - (intOf i).toNat)
  case atStart => exact ⟨0, [], Nat.zero_le _, rfl, Lib.hid rfl, HO.out.1, Lib.hid (HJ.out _ _ _ H0.out HO.out.2)⟩
  case round =>
    clear H0 HO
    obtain ⟨k, pre, hk, rfl, hp, hs, hj⟩ := hrel
    by_cases hlt : k < l.length
    · obtain ⟨ad, x, rfl, him, hx, e0, e1, hM, hsp, hnext⟩ := hs.out.at_ hlt
      have kn : Keep No wr (wr.alloc (.cells #[.slice x.A x.k.length x.c, .slice x.B x.v.length x.d] 82)) := (Keep.refl No wr).alloc _
      have hpre : prs (pre ++ [x]) = l.take (k + 1) := by
        rw [List.take_succ_eq_append_getElem hlt, ← hx, ← hp.out]; simp [prs]
      have HP := Lib.hid hpre
      have HN := Lib.hid (fun w2 (hk2 : Keep (fun b => b < W.heap.size ∨ x.sp b) (wr.alloc (.cells #[.slice x.A x.k.length x.c, .slice x.B x.v.length x.d] 82)) w2) => hnext w2 ((kn.mono (fun _ h => h.elim)).trans hk2 (fun _ h => .inl h)))
      obtain ⟨hB, hM, hM2, hM3, hM4, hM5⟩ := hM
      obtain ⟨fn, tmps, assign, body, hy, hR⟩ := HY.out pre x _ (HJ.out _ _ _ hj.out kn) ⟨by rw [hpre]; exact List.take_prefix _ _, Nat.le_trans hsz0 hB, hM.keepGe kn (fun _ _ h => h), hM2, hM3, Nat.le_trans hM4 kn.size, hM5⟩ hsp
      have hab := him.lt
      clear hnext hM hM2 hM3 hM4 hM5 hB hs hj hp hx him kn HY hpre
      dsimp only [Came.enc] at hy
      gi_wp2
      refine hR.mono ?_
      rintro e W3 (⟨rfl, hJ3, hk3⟩ | ⟨rfl, hJx3⟩)
      · have H3 := Lib.hid (show _ ∧ _ from ⟨hJ3, hk3⟩)
        clear hJ3 hk3 hR hy
        gi_wp2
        go_roundw
        case rel => exact ⟨k + 1, pre ++ [x], by omega, by go_num, HP, Lib.hid (HN.out _ H3.out.2), Lib.hid H3.out.1⟩
        case measure => simp [intOf]; omega
      · have H3 := Lib.hid hJx3
        clear hJx3 hR hy
        gi_wp2
        refine bodyPost_ret (results_none rfl _ _ _) rfl ?_
        exact ⟨⟨_, rfl⟩, .inr ⟨pre ++ [x], by rw [HP.out]; exact List.take_prefix _ _, H3.out⟩⟩
    · obtain rfl : k = l.length := by omega
      gi_wp2
      go_end0
      exact ⟨⟨_, rfl⟩, .inl ⟨pre, by rw [hp.out]; exact List.take_length, hj.out⟩⟩
end Go.Proofs.Ytdmckjojeddaaaa
