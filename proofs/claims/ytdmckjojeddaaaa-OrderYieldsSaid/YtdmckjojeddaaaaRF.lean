/- A range over a function whose iterator hands out new memory: what the iterator owes, what a round owes, and the law of the statement. Conditions: none. -/
import Derived.Test.YtdmckjojeddaaaaKit
import Derived.RangeFuncNested
import Derived.RangeFuncBound
import Derived.RangeFuncCalls
import Derived.RangeFuncLeaves
import Derived.Shelf.Abstract
namespace Go.Proofs.YtdmckjojeddaaaaKit
open Go.RowKit

/-- Blocks that hold no cells: the records of loops and their like. -/
def NoCells (A : World) (S : Nat → Prop) : Prop := ∀ b, S b → ∃ o, A.heap[b]? = some o ∧ o.isCells = false
/-- What a statement says of cells alone outlives new blocks and turns of records from B0 on. -/
def Stable {β : Type} (B0 : Nat) (I : β → World → Prop) : Prop := ∀ s A B S, I s A → Keep S A B → NoCells A S → (∀ b, S b → B0 ≤ b) → I s B
theorem Stable.new_ {β : Type} {B0 : Nat} {I : β → World → Prop} (h : Stable B0 I) {s : β} {A B : World} (hi : I s A) (hk : Keep No A B) : I s B := h s A B No hi hk (fun _ x => x.elim) (fun _ x => x.elim)
theorem keep_putObj (W : World) (l : Nat) (o : Obj) : Keep (fun b => b = l) W (W.putObj l o) := ⟨rfl, rfl, rfl, by simp, fun _ _ hn => World.putObj_heap_other hn⟩
theorem noCells_loop {A : World} {l : Nat} {r : Loop} (h : A.heap[l]? = some (.loop r)) : NoCells A (fun b => b = l) := fun b e => by subst e; exact ⟨_, h, rfl⟩
theorem loop_lt {A : World} {l : Nat} {o : Obj} (h : A.heap[l]? = some o) : l < A.heap.size := (Array.getElem?_eq_some_iff.1 h).1

/-- An iterator: at each round it promises M; a round may write whatever was laid before the iterator began, and what is handed out. -/
def SeqR {α : Type} (F : Fence) (n : Nat) (P : Program) (g : Nat) (lb : Array Value) (enc : α → Array Value) (sp : α → Nat → Prop) (M : List α → α → World → Prop) (Fin Part : List α → Prop) (w : World) : Prop :=
  ∀ (l : Nat) (J Jx : List α → World → Prop) (W : World), Keep No w W → (∀ s A B, J s A → Keep No A B → J s B) → (∀ s A B, Jx s A → Keep No A B → Jx s B) →
    (∀ pre x W1, J pre W1 → M pre x W1 → (∀ b, sp x b → W.heap.size ≤ b) → YieldAt F (n - 1) P l (enc x) W1 fun e W' =>
      (e = .returned (.bool true) ∧ J (pre ++ [x]) W' ∧ Keep (fun b => b < W.heap.size ∨ sp x b) W1 W') ∨ (e = .returned (.bool false) ∧ Jx (pre ++ [x]) W')) →
    J [] W →
    CallsIn F n P g (#[.func (.yield l) #[] #[]] ++ lb) W fun e W' => (∃ v, e = .returned v) ∧ ((∃ xs, Fin xs ∧ J xs W') ∨ (∃ pre, Part pre ∧ Jx pre W'))

/-- How the body of a round may be left. -/
def RoundEnd {α : Type} (B : Nat) (s : Nat → Prop) (I : List α → World → Prop) (Ix : Code → List α → World → Prop) (xs : List α) (W : World) : Exit → Act → World → Prop
  | .normal, _, W' => Keep (fun b => b < B ∨ s b) W W' ∧ I xs W'
  | .ret, _, W' => Keep (fun b => b < B ∨ s b) W W' ∧ Ix .ret xs W'
  | .exit id, _, W' => Keep (fun b => b < B ∨ s b) W W' ∧ Ix (.exit id) xs W'
  | .goto t, _, W' => Keep (fun b => b < B ∨ s b) W W' ∧ Ix (.goto t) xs W'
  | .panic _, _, _ => False
  | .outgrown, _, _ => False

section
variable {F : Fence} {n : Nat} {P : Program}
theorem wpIn_rangeR {α : Type} {g : Operand} {ps : Array Tmp} {assign body : Code} {Q : Exit → Act → World → Prop} {a : Act} {w : World} (hro : F.round = none) (h1 : 1 ≤ n) {gf : Nat} {lb : Array Value} (hg : a.eval g = .func (.func gf) #[] lb) (hFg : F.fn gf)
    (eg : ∀ args w, (callFunc gf args).run P w = .ok (.enter gf args) w) {enc : α → Array Value} {sp : α → Nat → Prop} {M : List α → α → World → Prop} {Fin Part : List α → Prop} (hseq : SeqR F (n - 1) P gf lb enc sp M Fin Part w) (hps : ∀ x, (enc x).size = ps.size)
    (hM : Stable w.heap.size (fun (s : List α × α) W => M s.1 s.2 W)) (I : List α → World → Prop) (Ix : Code → List α → World → Prop) (hI : Stable w.heap.size I) (hIx : ∀ c, Stable w.heap.size (Ix c)) (h0 : I [] w) (a₁ : α → Act)
    (hassign : ∀ (l : Nat) (x : α) (W : World) (K : Act → World → Prop), K (a₁ x) W → assign.wpIn (F.inRound l) (n - 1 - 1) P (Exit.then K (fun _ _ _ => False)) { tmps := (ps.zip (enc x)).foldl (fun t (p, v) => t.setIfInBounds p v) a.tmps, defers := [] } W)
    (hbody : ∀ (l : Nat) (pre : List α) (x : α) (W : World), I pre W → M pre x W → (∀ b, sp x b → w.heap.size + 2 ≤ b) → w.heap.size + 2 ≤ W.heap.size → body.wpIn (F.inRound l) (n - 1 - 1) P (RoundEnd w.heap.size (sp x) I Ix (pre ++ [x]) W) (a₁ x) W)
    (hdone : ∀ (D : Nat) (xs : List α) (W : World), w.heap.size ≤ D → Fin xs → I xs W → W.heap[D]? = some (.deferred (some [])) → Q .normal { a with defers := { target := .collected D, args := #[] } :: a.defers } W)
    (hstop : ∀ (D : Nat) (c : Code) (pre : List α) (W : World), w.heap.size ≤ D → Part pre → Ix c pre W → W.heap[D]? = some (.deferred (some [])) → c.wpIn F n P Q { a with defers := { target := .collected D, args := #[] } :: a.defers } W) :
    (Code.rangeFunc g ps assign body).wpIn F n P Q a w := by
  refine wpIn_rangeFunc fun fn hfn => ?_
  rw [hro]
  obtain ⟨rc, hrc⟩ : ∃ rc : LoopState → Option Code → Loop, rc = fun st pe => { state := st, pending := pe, fn, tmps := a.tmps, params := ps, assign, body, defers := w.heap.size } := ⟨_, rfl⟩
  obtain ⟨W0, hW0⟩ : ∃ W0, (w.alloc (.deferred (some []))).alloc (.loop { state := .ready, pending := none, fn, tmps := a.tmps, params := ps, assign, body, defers := w.heap.size }) = W0 := ⟨_, rfl⟩
  have hsize : W0.heap.size = w.heap.size + 2 := by rw [← hW0]; simp
  have hK : Keep No w W0 := hW0 ▸ ((Keep.refl No w).alloc _).alloc _
  have hL0 : W0.heap[w.heap.size + 1]? = some (.loop (rc .ready none)) := by
    rw [← hW0, hrc]
    have := World.alloc_heap_new (w.alloc (.deferred (some []))) (.loop { state := .ready, pending := none, fn, tmps := a.tmps, params := ps, assign, body, defers := w.heap.size })
    rwa [World.size_alloc] at this
  have hD0 : W0.heap[w.heap.size]? = some (.deferred (some [])) := by
    rw [← hW0]
    exact (((Keep.refl No (w.alloc (.deferred (some [])))).alloc _).block w.heap.size (by simp) (fun x => x)).trans (World.alloc_heap_new w _)
  have hent := run_enterLoop_outer (P := P) (w := w) fn a.tmps ps assign body
  rw [hW0] at hent
  refine ⟨w.heap.size + 1, _, W0, { target := .fn (.func gf) lb, args := #[.func (.yield (w.heap.size + 1)) #[] #[]] }, W0, gf, #[.func (.yield (w.heap.size + 1)) #[] #[]] ++ lb, W0, hent, ?_, ?_, ?_, fun _ => h1, ?_⟩
  · simp only [resolve, hg]; simp [go_sem]
  · intro f' hf'; simp [Target.leads] at hf'; subst hf'; exact hFg
  · simp [invoke, go_sem, eg]
  refine (hseq (w.heap.size + 1) (fun pre W => I pre W ∧ W.heap[w.heap.size + 1]? = some (.loop (rc .ready none)) ∧ W.heap[w.heap.size]? = some (.deferred (some [])))
    (fun pre W => ∃ c, Ix c pre W ∧ W.heap[w.heap.size + 1]? = some (.loop (rc .done (some c))) ∧ W.heap[w.heap.size]? = some (.deferred (some []))) W0 hK ?_ ?_ ?_ ⟨hI.new_ h0 hK, hL0, hD0⟩).mono ?_
  · rintro s A B ⟨h1, h2, h3⟩ hk
    exact ⟨hI.new_ h1 hk, (hk.block _ (loop_lt h2) (fun x => x)).trans h2, (hk.block _ (loop_lt h3) (fun x => x)).trans h3⟩
  · rintro s A B ⟨c, h1, h2, h3⟩ hk
    exact ⟨c, (hIx c).new_ h1 hk, (hk.block _ (loop_lt h2) (fun x => x)).trans h2, (hk.block _ (loop_lt h3) (fun x => x)).trans h3⟩
  · rintro pre x W ⟨hi, hl, hd⟩ hm hlo
    have hlt := loop_lt hl
    have hy := run_yield (P := P) (args := enc x) hl (by rw [hrc]; exact hps x)
    rw [hrc] at hy
    rw [hsize] at hlo
    refine ⟨fn, _, assign, body, hy, roundIn_of_wpIn hfn (hassign _ x W _ ⟨_, run_beginRound hl (by rw [hrc]), ?_⟩)⟩
    obtain ⟨Wb, hWb⟩ : ∃ Wb, W.putObj (w.heap.size + 1) (.loop { rc .ready none with state := .busy }) = Wb := ⟨_, rfl⟩
    have hkb : Keep (fun b => b = w.heap.size + 1) W Wb := hWb ▸ keep_putObj _ _ _
    have hlb : Wb.heap[w.heap.size + 1]? = some (.loop { rc .ready none with state := .busy }) := hWb ▸ World.putObj_heap_same hlt
    have hdb : Wb.heap[w.heap.size]? = some (.deferred (some [])) := (hkb.block _ (loop_lt hd) (by omega)).trans hd
    have hib : I pre Wb := hI _ _ _ _ hi hkb (noCells_loop hl) (fun b (e : b = w.heap.size + 1) => by omega)
    have hmb : M pre x Wb := hM (pre, x) _ _ _ hm hkb (noCells_loop hl) (fun b (e : b = w.heap.size + 1) => by omega)
    rw [hWb]
    refine wpIn_mono (hbody _ pre x Wb hib hmb hlo (by have := loop_lt hlb; omega)) ?_
    have fin : ∀ (jump : Option Code) (W3 : World), Keep (fun b => b < w.heap.size ∨ sp x b) Wb W3 →
        ∃ W4, (Instr.endRound (w.heap.size + 1) jump).run P W3 = .ok (.bool jump.isNone) W4 ∧ Keep (fun b => b = w.heap.size + 1) W3 W4 ∧ NoCells W3 (fun b => b = w.heap.size + 1) ∧
          W4.heap[w.heap.size + 1]? = some (.loop (rc (if jump.isNone then .ready else .done) jump)) ∧ W4.heap[w.heap.size]? = some (.deferred (some [])) := fun jump W3 hk3 => by
      have hl3 := (hk3.block _ (loop_lt hlb) (fun h => h.elim (fun h => by omega) (fun h => by have := hlo _ h; omega))).trans hlb
      have hd3 := (hk3.block _ (loop_lt hdb) (fun h => h.elim (fun h => by omega) (fun h => by have := hlo _ h; omega))).trans hdb
      have hr := run_endRound (P := P) jump hl3
      refine ⟨_, hr, keep_putObj _ _ _, noCells_loop hl3, ?_, (World.putObj_heap_other (by omega)).trans hd3⟩
      rw [World.putObj_heap_same (loop_lt hl3), hrc]
    intro e a3 W3 hp
    cases e with
    | normal =>
      obtain ⟨hk3, hi3⟩ := hp
      obtain ⟨W4, hr, hk4, hn4, hl4, hd4⟩ := fin none W3 hk3
      refine ⟨_, W4, hr, .inl ⟨rfl, ⟨hI _ _ _ _ hi3 hk4 hn4 (fun b (e : b = w.heap.size + 1) => by omega), hl4, hd4⟩, ?_⟩⟩
      rw [hsize]
      exact ((hkb.mono (S' := fun b => b < w.heap.size + 2 ∨ sp x b) (fun b e => .inl (by omega))).trans hk3 (fun b e => .inl (e.elim (fun h => .inl (by omega)) .inr))).trans hk4 (fun b e => .inl (.inl (by omega)))
    | ret =>
      obtain ⟨hk3, hi3⟩ := hp
      obtain ⟨W4, hr, hk4, hn4, hl4, hd4⟩ := fin (some .ret) W3 hk3
      exact ⟨_, W4, hr, .inr ⟨rfl, .ret, hIx _ _ _ _ _ hi3 hk4 hn4 (fun b (e : b = w.heap.size + 1) => by omega), hl4, hd4⟩⟩
    | exit id =>
      obtain ⟨hk3, hi3⟩ := hp
      obtain ⟨W4, hr, hk4, hn4, hl4, hd4⟩ := fin (some (.exit id)) W3 hk3
      exact ⟨_, W4, hr, .inr ⟨rfl, .exit id, hIx _ _ _ _ _ hi3 hk4 hn4 (fun b (e : b = w.heap.size + 1) => by omega), hl4, hd4⟩⟩
    | goto t =>
      obtain ⟨hk3, hi3⟩ := hp
      obtain ⟨W4, hr, hk4, hn4, hl4, hd4⟩ := fin (some (.goto t)) W3 hk3
      exact ⟨_, W4, hr, .inr ⟨rfl, .goto t, hIx _ _ _ _ _ hi3 hk4 hn4 (fun b (e : b = w.heap.size + 1) => by omega), hl4, hd4⟩⟩
    | panic ch => exact hp.elim
    | outgrown => exact hp.elim
  · rintro e W2 ⟨⟨v, rfl⟩, (⟨xs, hF, hi, hl, hd⟩ | ⟨pre, hp, c, hi, hl, hd⟩)⟩
    · have hr := run_endLoop (P := P) hl (by rw [hrc]; simp)
      have hp : (rc .ready none).pending = none := by rw [hrc]
      rw [hp] at hr
      exact ⟨none, _, hr, hdone _ xs _ (Nat.le_refl _) hF (hI _ _ _ _ hi (keep_putObj _ _ _) (noCells_loop hl) (fun b (e : b = w.heap.size + 1) => by omega)) ((World.putObj_heap_other (by omega)).trans hd)⟩
    · have hr := run_endLoop (P := P) hl (by rw [hrc]; simp)
      have hp' : (rc .done (some c)).pending = some c := by rw [hrc]
      rw [hp'] at hr
      exact ⟨some c, _, hr, hstop _ c pre _ (Nat.le_refl _) hp (hIx c _ _ _ _ hi (keep_putObj _ _ _) (noCells_loop hl) (fun b (e : b = w.heap.size + 1) => by omega)) ((World.putObj_heap_other (by omega)).trans hd)⟩
end
end Go.Proofs.YtdmckjojeddaaaaKit
