/- Contract of order's Span. Conditions: it names its own. -/
import Derived.Test.YtdmckjojeddaaaaRF
import Derived.Test.YtdmckjojeddaaaaR1
import Derived.Test.YtdmckjojeddaaaaC5
namespace Go.Proofs.Ytdmckjojeddaaaa
open Go.RowKit Go.Proofs.YtdmckjojeddaaaaKit Go.Proofs.YtdmckjojeddaaaaPlain
attribute [local go_sem] Oper.semAt_some

/-- The pairs that a span stops at, and those that it takes. -/
def spanStop (to : List UInt8) (bd : Bool) (p : Pair) : Bool := bd && decide (0 ≤ Lib.compareBytes p.1 to)
def spanTake (frm : List UInt8) (p : Pair) : Bool := decide (0 ≤ Lib.compareBytes p.1 frm)
def spanL (frm to : List UInt8) (bd : Bool) (l : List Pair) : List Pair := (l.takeWhile fun p => !spanStop to bd p).filter (spanTake frm)

section
variable {w w1 : World} {lo mid hi B k c : Nat} {p : Pair} {cs : List Value} {l : List Pair} {xs : List Value} {S : Nat → Prop}
theorem FlatI.keepNC (h : FlatI w lo l xs hi) (hk : Keep S w w1) (hs : NoCells w S) : FlatI w1 lo l xs hi := by
  induction l generalizing lo xs with
  | nil => exact h
  | cons p l ih =>
    obtain ⟨mid, cs, ys, e, h1, h2, h3⟩ := h
    exact ⟨mid, cs, ys, e, h1, h2.keepNC hk hs, ih h3⟩
theorem blk_keepNC {g : Nat} {t : TypeId} {cs : Array Value} (h : Blk w g t cs) (hk : Keep S w w1) (hs : NoCells w S) : Blk w1 g t cs := h.keep hk fun hS => by
  obtain ⟨o, ho, hc⟩ := hs g hS
  rw [show w.heap[g]? = _ from h] at ho
  injection ho with ho
  subst ho
  simp [Obj.isCells] at hc
end

/-- Between two rounds of Span. -/
structure SpanI (w : World) (S5 S6 : Value) (bd : Bool) (out : List Pair) (pre : List Came) (W : World) : Prop where
  k : Keep No w W
  b5 : Blk W w.heap.size 23 #[S5]
  b6 : Blk W (w.heap.size + 1) 23 #[S6]
  b7 : Blk W (w.heap.size + 1 + 1) 4 #[.bool bd]
  data : ∃ T v xs hi, Blk W (w.heap.size + 1 + 1 + 1) 35 #[v] ∧ w.heap.size + 5 ≤ T ∧ T ≤ W.heap.size ∧ (∀ y ∈ pre, y.top = T ∧ y.mid ≤ T) ∧ (pre = [] → v = .slice none 0 0 ∧ out = [] ∧ xs = []) ∧ W.ownsRow T 82 2 v out.length xs ∧
    FlatI W w.heap.size out xs hi ∧ (∀ lo, w.heap.size ≤ lo → (∀ y ∈ pre, y.mid ≤ lo) → hi ≤ lo)
theorem SpanI.stable {w : World} {S5 S6 : Value} {bd : Bool} {B0 : Nat} (hB : w.heap.size ≤ B0) {out : List Pair} {pre : List Came} {A W : World} {S : Nat → Prop} (h : SpanI w S5 S6 bd out pre A) (hk : Keep S A W) (hn : NoCells A S) (hs : ∀ b, S b → B0 ≤ b) : SpanI w S5 S6 bd out pre W := by
  obtain ⟨k, b5, b6, b7, T, v, xs, hi, b9, hT, hT2, h1, h2, h3, h4, h5⟩ := h
  exact ⟨k.trans hk (fun b hb => .inr (Nat.le_trans hB (hs b hb))), blk_keepNC b5 hk hn, blk_keepNC b6 hk hn, blk_keepNC b7 hk hn, T, v, xs, hi, blk_keepNC b9 hk hn, hT, Nat.le_trans hT2 hk.size, h1, h2, own_keepNC h3 hk hn, h4.keepNC hk hn, h5⟩

section
variable {w W : World} {S5 S6 : Value} {bd : Bool} {out l : List Pair} {pre : List Came} {x : Came}
theorem PairAt.came {lo hi : Nat} (h : PairAt W lo hi x.pr x.cs) : W.ownsRow lo 5 1 (.slice x.A x.k.length x.c) x.k.length (byteVs x.k) ∧ W.ownsRow lo 5 1 (.slice x.B x.v.length x.d) x.v.length (byteVs x.v) := by
  obtain ⟨A, c, B, d, e, h1, h2, _⟩ := h
  simp only [Came.cs, Came.pr] at e h1 h2
  injection e with e1 e2
  injection e1 with e1 e3 e4
  injection e2 with e2 e5
  injection e2 with e2 e6 e7
  subst e1; subst e2; subst e4; subst e7
  exact ⟨h1, h2⟩
/-- What a round finds: the row so far, whose block lies from x.top on. -/
theorem SpanI.at_ (h : SpanI w S5 S6 bd out pre W) (hM : Came.M l (w.heap.size + 5) pre x W) : ∃ v xs hi, Blk W (w.heap.size + 1 + 1 + 1) 35 #[v] ∧ W.ownsRow x.top 82 2 v out.length xs ∧ FlatI W w.heap.size out xs hi ∧ hi ≤ x.lo := by
  obtain ⟨k, b5, b6, b7, T, v, xs, hi, b9, hT, hT2, h1, h2, h3, h4, h5⟩ := h
  obtain ⟨m1, m2, m3, m4, m5, m6, m7⟩ := hM
  refine ⟨v, xs, hi, b9, ?_, h4, h5 _ (by omega) (fun y hy => (m7 y hy).1)⟩
  cases pre with
  | nil =>
    obtain ⟨rfl, rfl, rfl⟩ := h2 rfl
    exact World.ownsRow_nil _ _ _ _
  | cons y pre =>
    have e : T = x.top := by rw [← (h1 y List.mem_cons_self).1, (m7 y List.mem_cons_self).2]
    exact e ▸ h3
theorem SpanI.skip (h : SpanI w S5 S6 bd out pre W) (hM : Came.M l (w.heap.size + 5) pre x W) : SpanI w S5 S6 bd out (pre ++ [x]) W := by
  obtain ⟨v, xs, hi, b9, h1, h2, h3⟩ := h.at_ hM
  obtain ⟨k, b5, b6, b7, _, _, _, _, _, _, _, _, _, _, _, _⟩ := h
  obtain ⟨m1, m2, m3, m4, m5, m6, m7⟩ := hM
  refine ⟨k, b5, b6, b7, x.top, v, xs, hi, b9, by omega, m6, ?_, fun e => absurd e (by simp), h1, h2, fun lo hlo hy => ?_⟩
  · intro y hy
    rcases List.mem_append.1 hy with h9 | h9
    · exact ⟨(m7 y h9).2, Nat.le_trans (m7 y h9).1 (Nat.le_trans m4 m5)⟩
    · simp at h9; subst h9; exact ⟨rfl, m5⟩
  · have := hy x (by simp); omega
theorem SpanI.took {w3 : World} {v v' : Value} {xs : List Value} {hi : Nat} (h : SpanI w S5 S6 bd out pre W) (hM : Came.M l (w.heap.size + 5) pre x W) (hb : Blk W (w.heap.size + 1 + 1 + 1) 35 #[v]) (h1 : W.ownsRow x.top 82 2 v out.length xs)
    (h2 : FlatI W w.heap.size out xs hi) (h3 : hi ≤ x.lo) (hown : w3.ownsRow x.top 82 2 v' (out.length + 1) (xs ++ x.cs)) (hg : (W.alloc (.cells #[.slice x.A x.k.length x.c, .slice x.B x.v.length x.d] 82)).grownBy w3 v.ownBlock) :
    SpanI w S5 S6 bd (out ++ [x.pr]) (pre ++ [x]) (w3.setCell ⟨w.heap.size + 1 + 1 + 1, 0, none⟩ v') ∧ Keep (fun b => b < w.heap.size + 5 ∨ x.sp b) W (w3.setCell ⟨w.heap.size + 1 + 1 + 1, 0, none⟩ v') := by
  obtain ⟨k, b5, b6, b7, _⟩ := h
  obtain ⟨m1, m2, m3, m4, m5, m6, m7⟩ := hM
  have hblk : ∀ x, v.ownBlock = some x → ∃ cs t f, W.heap[x]? = some (.cells cs t f) ∧ t ≠ 5 := fun x ex => by
    rcases h1.2 with ⟨h0, _⟩ | ⟨g, cap, cur, h0, _, h8, _⟩
    · rw [h0] at ex; simp [Value.ownBlock] at ex
    · rw [h0] at ex; simp [Value.ownBlock] at ex; subst ex; exact ⟨cur, _, _, h8, by decide⟩
  have hvt : ∀ b, v.ownBlock = some b → x.top ≤ b := fun b e => (World.ownsRow.lt h1 b e).1
  have hk1 : Keep (fun b => v.ownBlock = some b) W w3 := ((Keep.refl (fun b => v.ownBlock = some b) W).alloc _).grown hg (fun k e => .inl e)
  have hk2 : Keep (fun b => b = w.heap.size + 1 + 1 + 1) w3 (w3.setCell ⟨w.heap.size + 1 + 1 + 1, 0, none⟩ v') := (Keep.refl (fun b => b = w.heap.size + 1 + 1 + 1) w3).setCell (p := ⟨w.heap.size + 1 + 1 + 1, 0, none⟩) (.inl rfl) _
  have hb3 : Blk w3 (w.heap.size + 1 + 1 + 1) 35 #[v] := hb.keep hk1 (fun e => by have := hvt _ e; omega)
  have hn2 : NoBytes w3 (fun b => b = w.heap.size + 1 + 1 + 1) := fun b e => by subst e; exact ⟨_, _, _, hb3, by decide⟩
  have hsz3 := hk1.size
  have hsz4 := hk2.size
  have kk : ∀ {g : Nat} {t : TypeId} {cs : Array Value}, Blk W g t cs → g < w.heap.size + 1 + 1 + 1 → Blk (w3.setCell ⟨w.heap.size + 1 + 1 + 1, 0, none⟩ v') g t cs := fun hB hlt => (hB.keep hk1 (fun e => by have := hvt _ e; omega)).keep hk2 (fun e => by omega)
  refine ⟨⟨(k.trans hk1 (fun b e => .inr (by have := hvt _ e; omega))).trans hk2 (fun b e => .inr (by have : b = w.heap.size + 1 + 1 + 1 := e; omega)), kk b5 (by omega), kk b6 (by omega), kk b7 (by omega), x.top, v', xs ++ x.cs, x.mid, by have := hb3.set_ 0 v'; simpa using this, by omega, by omega, ?_, fun e => absurd e (by simp), ?_, ?_, fun lo hlo hy => hy x (by simp)⟩, ?_⟩
  · intro y hy
    rcases List.mem_append.1 hy with h9 | h9
    · exact ⟨(m7 y h9).2, Nat.le_trans (m7 y h9).1 (Nat.le_trans m4 m5)⟩
    · simp at h9; subst h9; exact ⟨rfl, m5⟩
  · rw [List.length_append]
    exact own_keep hown hk2 (fun b e hb => by have := (World.ownsRow.lt hown b e).1; have : b = w.heap.size + 1 + 1 + 1 := hb; omega)
  · exact (((h2.high h3).snoc m3 m4).keep hk1 hblk).keep hk2 hn2
  · exact (hk1.mono (fun b e => .inr (.inr (.inr (hvt b e))))).trans (hk2.mono (S' := fun b => b < w.heap.size + 5 ∨ x.sp b) (fun b e => .inl (by have : b = w.heap.size + 1 + 1 + 1 := e; omega))) (fun b e => .inl e)
theorem OwnPI.keepNC {B : Nat} {l : List Pair} {v : Value} {w1 : World} {S : Nat → Prop} (h : OwnPI B l v w) (hk : Keep S w w1) (hn : NoCells w S) : OwnPI B l v w1 := by
  obtain ⟨xs, h1, h2⟩ := h
  exact ⟨xs, own_keepNC h1 hk hn, (h2.keepNC hk hn).high hk.size⟩
theorem SpanI.fin (h : SpanI w S5 S6 bd out pre W) : ∃ A c, Blk W (w.heap.size + 1 + 1 + 1) 35 #[.slice A out.length c] ∧ out.length ≤ c ∧ OwnPI w.heap.size out (.slice A out.length c) W := by
  obtain ⟨k, b5, b6, b7, T, v, xs, hi, b9, hT, hT2, h1, h2, h3, h4, h5⟩ := h
  obtain ⟨A, c, rfl, hc⟩ := own_slice h3
  have := h5 T (by omega) (fun y hy => (h1 y hy).2)
  exact ⟨A, c, b9, hc, xs, ownsRow_weak h3 (by omega), h4.high (by omega)⟩
theorem spanL_all {frm to : List UInt8} (h : ∀ p ∈ l, spanStop to bd p = false) : spanL frm to bd l = l.filter (spanTake frm) := by
  have : (l.takeWhile fun p => !spanStop to bd p) = l := by
    induction l with
    | nil => rfl
    | cons p l ih => rw [List.takeWhile_cons, h p List.mem_cons_self, ih (fun q hq => h q (List.mem_cons_of_mem _ hq))]; rfl
  rw [spanL, this]
theorem spanL_cut {frm to : List UInt8} {a : List Pair} {p : Pair} (hp : a ++ [p] <+: l) (h : ∀ q ∈ a, spanStop to bd q = false) (hs : spanStop to bd p = true) : spanL frm to bd l = a.filter (spanTake frm) := by
  obtain ⟨r, rfl⟩ := hp
  have : ((a ++ [p] ++ r).takeWhile fun p => !spanStop to bd p) = a := by
    induction a with
    | nil => simp [hs]
    | cons q a ih =>
      have := ih (fun q hq => h q (List.mem_cons_of_mem _ hq))
      simp only [List.cons_append, List.takeWhile_cons, h q List.mem_cons_self, Bool.not_false, if_true] at this ⊢
      rw [this]
  rw [spanL, this]
theorem reads_cells {base e size n : Nat} {ad : Addr} {xs : List Value} (h : Reads base W e size (some ad) n xs) (hn : 0 < n) : ∀ j u, xs[j]? = some u → W.cell? (ad.add j) = some u := by
  obtain ⟨ad', e, _, h⟩ := h.2 hn
  injection e with e
  subst e
  exact h
theorem blk_at {g : Nat} {t : TypeId} {cs : Array Value} (h : W.heap.size = g) : Blk (W.alloc (.cells cs t)) g t cs := h ▸ Blk.new _ _ _
end

set_option maxHeartbeats 2000000 in
set_option maxRecDepth 100000 in
theorem span_any {base : Nat} {w : World} {mb : Nat} {seed : Int} {l : List Pair} {F : List Nat} {A1 A2 : Option Addr} {m c m' c' : Nat} {frm to : List UInt8} {bd : Bool} (h : MSt base w mb seed l F) (hb : base ≤ w.heap.size) (hsz : l.length ≤ 900000)
    (h1 : Bytes base w A1 m frm) (h2 : Bytes base w A2 m' to) :
    Calls Try.prog 37 #[.pointer (some ⟨mb, 0, none⟩), .slice A1 m c, .slice A2 m' c', .bool bd] w (OrdRet w.heap.size w (spanL frm to bd l)) := by
  refine (callsIn_wide (n := 3)).1 ?_
  refine callsIn_of_wp_marks Try.func37 rfl trivial ?_ rfl
  simp only [Try.ntmps37, List.size_toArray, List.length_cons, List.length_nil, Nat.reduceAdd, Nat.reduceSub, Array.replicate_succ, Array.replicate_zero, List.push_toArray, List.append_toArray, List.nil_append, List.cons_append]
  gi_wp2_with (refine ⟨trivial, ?_⟩; gi_at_call 41; refine (callsIn_wide.2 (all_any _ _)).mono ?_; rintro e w' ⟨rfl, rfl⟩)
  obtain ⟨w0, hw0⟩ : ∃ w0, (((((w.alloc (Obj.cells #[Value.slice A1 m c] 23)).alloc (Obj.cells #[Value.slice A2 m' c'] 23)).alloc (Obj.cells #[Value.bool bd] 4)).alloc (Obj.cells #[Value.slice none 0 0] 35)).alloc (Obj.cells #[Value.pointer (some { block := mb, off := 0 })] 38)) = w0 := ⟨_, rfl⟩
  have hz : w0.heap.size = w.heap.size + 5 := by rw [← hw0]; simp
  have hk0 : Keep No w w0 := by rw [← hw0]; exact (((((Keep.refl No w).alloc _).alloc _).alloc _).alloc _).alloc _
  rw [hw0]
  have hI0 : SpanI w (.slice A1 m c) (.slice A2 m' c') bd [] [] w0 := by
    refine ⟨hk0, ?_, ?_, ?_, w.heap.size + 5, .slice none 0 0, [], w.heap.size, ?_, Nat.le_refl _, by omega, fun y hy => absurd hy (by simp), fun _ => ⟨rfl, rfl, rfl⟩, World.ownsRow_nil _ _ _ _, ⟨rfl, Nat.le_refl _⟩, fun lo hlo _ => hlo⟩
    · rw [← hw0]; exact ((((blk_at rfl).alloc _).alloc _).alloc _).alloc _
    · rw [← hw0]; exact (((blk_at (by simp)).alloc _).alloc _).alloc _
    · rw [← hw0]; exact ((blk_at (by simp)).alloc _).alloc _
    · rw [← hw0]; exact (blk_at (by simp)).alloc _
  have hbx : w0.cell? ⟨w.heap.size + 1 + 1 + 1 + 1, 0, none⟩ = some (.pointer (some ⟨mb, 0, none⟩)) := by
    have := (show Blk w0 (w.heap.size + 1 + 1 + 1 + 1) _ _ from by rw [← hw0]; exact blk_at (by simp)).cell 0
    simpa using this
  have H1 := Lib.hid (show _ ∧ _ from ⟨h1, h2⟩)
  have hseq := seq_any (n := 2) (by omega) (h.new_ hk0) (Nat.le_trans hb hk0.size) (by omega) hbx (by omega)
  clear hw0 h h1 h2 hbx
  refine wpIn_rangeR (F := Fence.wide) rfl (by omega) (gf := 79) (lb := #[.pointer (some ⟨w.heap.size + 1 + 1 + 1 + 1, 0, none⟩)]) rfl trivial (enters_of Try.func79 (by kernel_rfl) rfl) hseq (fun _ => rfl) Came.stable
    (fun pre W => SpanI w (.slice A1 m c) (.slice A2 m' c') bd ((prs pre).filter (spanTake frm)) pre W ∧ ∀ p ∈ prs pre, spanStop to bd p = false)
    (fun cd pre W => cd = .exit 0 ∧ ∃ pre' x, pre = pre' ++ [x] ∧ SpanI w (.slice A1 m c) (.slice A2 m' c') bd ((prs pre').filter (spanTake frm)) pre' W ∧ (∀ p ∈ prs pre', spanStop to bd p = false) ∧ spanStop to bd x.pr = true)
    (fun s A B S hs hk hn hB => ⟨hs.1.stable (by omega) hk hn hB, hs.2⟩)
    (fun cd s A B S hs hk hn hB => ⟨hs.1, by obtain ⟨pre', x, e, h1, h2⟩ := hs.2; exact ⟨pre', x, e, h1.stable (by omega) hk hn hB, h2⟩⟩)
    ⟨hI0, fun p hp => absurd hp (by simp [prs])⟩
    (fun x => { tmps := #[Value.pointer (some { block := mb, off := 0 }), Value.slice A1 m c, Value.slice A2 m' c', Value.bool bd,
          undef, Value.pointer (some { block := w.heap.size, off := 0 }),
          Value.pointer (some { block := w.heap.size + 1, off := 0 }),
          Value.pointer (some { block := w.heap.size + 1 + 1, off := 0 }), Value.slice none 0 0,
          Value.pointer (some { block := w.heap.size + 1 + 1 + 1, off := 0 }), Value.slice x.A x.k.length x.c, Value.slice x.B x.v.length x.d,
          Value.pointer (some { block := mb, off := 0 }),
          Value.func (Fn.func 79) #[] #[Value.pointer (some { block := w.heap.size + 1 + 1 + 1 + 1, off := 0 })], Value.slice x.A x.k.length x.c, Value.slice x.B x.v.length x.d,
          undef, undef, undef, undef, undef, undef, undef, undef, undef, undef, undef, undef, undef, undef,
          undef, undef, undef, undef], defers := [] }) ?assign ?body ?done ?stop
  case assign =>
    intro l x W K hK
    dsimp only [Came.enc]
    gi_wp2
    exact hK
  case body =>
    rintro y pre x W ⟨hI, hpass⟩ hM hsp hWs
    rw [hz] at hM ⊢
    obtain ⟨v, xs, hi, b9, o1, f1, hlo⟩ := hI.at_ hM
    have g5 := hI.b5.cell 0
    have g6 := hI.b6.cell 0
    have g7 := hI.b7.cell 0
    have g9 := b9.cell 0
    have q9 := b9.frozen 0
    simp only [List.getElem?_toArray, List.getElem?_cons_zero] at g5 g6 g7 g9
    have HC1 := Lib.hid (bcompare x.A A2 x.k.length x.c m' c' x.k to W (Bytes.of_own (base := base) hM.2.2.1.came.1) (H1.out.2.keep hI.k (fun _ h => h.elim)))
    have HC2 := Lib.hid (bcompare x.A A1 x.k.length x.c m c x.k frm W (Bytes.of_own (base := base) hM.2.2.1.came.1) (H1.out.1.keep hI.k (fun _ h => h.elim)))
    have hprs : prs (pre ++ [x]) = prs pre ++ [x.pr] := by simp [prs]
    obtain ⟨z1, e1⟩ : ∃ z, Lib.compareBytes x.k to = z := ⟨_, rfl⟩
    obtain ⟨z2, e2⟩ : ∃ z, Lib.compareBytes x.k frm = z := ⟨_, rfl⟩
    rw [e1] at HC1
    rw [e2] at HC2
    have hskip : ¬ 0 ≤ z2 → spanStop to bd x.pr = false → SpanI w (.slice A1 m c) (.slice A2 m' c') bd ((prs (pre ++ [x])).filter (spanTake frm)) (pre ++ [x]) W ∧ ∀ p ∈ prs (pre ++ [x]), spanStop to bd p = false := fun hz2 hst => by
      have : spanTake frm x.pr = false := by simp [spanTake, Came.pr, e2]; omega
      rw [hprs, List.filter_append, List.filter_cons, this]
      refine ⟨by simpa using hI.skip hM, fun p hp => ?_⟩
      rcases List.mem_append.1 hp with h9 | h9
      · exact hpass p h9
      · simp at h9; subst h9; exact hst
    have htook : ∀ W4, 0 ≤ z2 → spanStop to bd x.pr = false → SpanI w (.slice A1 m c) (.slice A2 m' c') bd ((prs pre).filter (spanTake frm) ++ [x.pr]) (pre ++ [x]) W4 → SpanI w (.slice A1 m c) (.slice A2 m' c') bd ((prs (pre ++ [x])).filter (spanTake frm)) (pre ++ [x]) W4 ∧ ∀ p ∈ prs (pre ++ [x]), spanStop to bd p = false := fun W4 hz2 hst h4 => by
      have : spanTake frm x.pr = true := by simp [spanTake, Came.pr, e2]; omega
      rw [hprs, List.filter_append, List.filter_cons, this]
      refine ⟨by simpa using h4, fun p hp => ?_⟩
      rcases List.mem_append.1 hp with h9 | h9
      · exact hpass p h9
      · simp at h9; subst h9; exact hst
    have HS := Lib.hid (show _ ∧ _ from ⟨hskip, htook⟩)
    have HT := Lib.hid (show spanStop to bd x.pr = (bd && decide (0 ≤ z1)) from by simp [spanStop, Came.pr, e1])
    have htop : w.heap.size + 5 ≤ x.top := by obtain ⟨m1, m2, m3, m4, m5, m6, m7⟩ := hM; omega
    have HX := Lib.hid (show x.top ≤ (W.alloc (.cells #[.slice x.A x.k.length x.c, .slice x.B x.v.length x.d] 82)).heap.size from by obtain ⟨m1, m2, m3, m4, m5, m6, m7⟩ := hM; simp; omega)
    have HB := Lib.hid (fun w3 (hg : (W.alloc (.cells #[.slice x.A x.k.length x.c, .slice x.B x.v.length x.d] 82)).grownBy w3 v.ownBlock) => b9.keep (((Keep.refl (fun b => v.ownBlock = some b) W).alloc _).grown hg (fun k e => .inl e)) (fun e => by have := (World.ownsRow.lt o1 _ e).1; omega))
    have HD := Lib.hid (fun w3 v' hg hown => SpanI.took (w3 := w3) (v' := v') hI hM b9 o1 f1 hlo hown hg)
    have hlen : ((prs pre).filter (spanTake frm)).length ≤ 900000 := by
      have h1 := hM.1.length_le
      have h2 := List.length_filter_le (spanTake frm) (prs pre)
      rw [hprs, List.length_append] at h1
      omega
    obtain ⟨i0, hi0, hz0, hz1i, hz2i⟩ := info_parts info_pair
    have HI := Lib.hid (show _ ∧ _ ∧ _ ∧ _ ∧ _ from ⟨hI, hM, b9, f1, hlo⟩)
    have HP := Lib.hid hpass
    have HO := Lib.hid o1
    clear hskip htook hI hM b9 f1 hlo hpass o1 hprs e1 e2
    by_cases hst : bd = true ∧ 0 ≤ z1
    · obtain ⟨rfl, hz1⟩ := hst
      gi_wp2_with (refine ⟨trivial, ?_⟩; gi_at_call 61; refine (CallsIn.inRound y (callsIn_wide.2 HC1.out)).mono ?_; rintro e w' ⟨rfl, rfl⟩)
      exact ⟨Keep.refl _ _, rfl, pre, x, rfl, HI.out.1, HP.out, by rw [HT.out]; simpa using hz1⟩
    · have hns : spanStop to bd x.pr = false := by
        rw [HT.out]; cases bd with
        | false => rfl
        | true => simpa using fun h => hst ⟨rfl, h⟩
      have HN := Lib.hid hns
      clear hns
      by_cases hz2 : 0 ≤ z2
      · cases bd with
        | false =>
          gi_wp2_with (first | (refine ⟨trivial, ?_⟩; gi_at_call 61; refine (CallsIn.inRound y (callsIn_wide.2 HC2.out)).mono ?_; rintro e w' ⟨rfl, rfl⟩; clear HC2) | (gi_at_builtin; refine wpListIn_append_own _ rfl _ _ _ rfl x.top 82 i0 _ 2 48 Try.underlying35 hi0 hz0 hz1i hz2i rfl (by omega) _ _ xs rfl (HO.out.alloc _) ⟨W.heap.size, 0, none⟩ 1 1 x.cs rfl rfl (reads_cells (rec_new (base := 0) (cs := x.cs) rfl) (by omega)) (by simp [Came.cs, Value.oneCell']) (by simp only [maxLen]; omega) (by omega) HX.out ?_; intro v' w3 hown hg _; obtain ⟨A9, c9, rfl, _⟩ := own_slice hown; have q3 := (HB.out _ hg).frozen 0; have g3 := (HB.out _ hg).cell 0; simp only [List.getElem?_toArray, List.getElem?_cons_zero] at g3))
          refine ⟨trivial, ?_⟩
          gi_wp2_with (first | (refine ⟨trivial, ?_⟩; gi_at_call 61; refine (CallsIn.inRound y (callsIn_wide.2 HC2.out)).mono ?_; rintro e w' ⟨rfl, rfl⟩; clear HC2) | (gi_at_builtin; refine wpListIn_append_own _ rfl _ _ _ rfl x.top 82 i0 _ 2 48 Try.underlying35 hi0 hz0 hz1i hz2i rfl (by omega) _ _ xs rfl (HO.out.alloc _) ⟨W.heap.size, 0, none⟩ 1 1 x.cs rfl rfl (reads_cells (rec_new (base := 0) (cs := x.cs) rfl) (by omega)) (by simp [Came.cs, Value.oneCell']) (by simp only [maxLen]; omega) (by omega) HX.out ?_; intro v' w3 hown hg _; obtain ⟨A9, c9, rfl, _⟩ := own_slice hown; have q3 := (HB.out _ hg).frozen 0; have g3 := (HB.out _ hg).cell 0; simp only [List.getElem?_toArray, List.getElem?_cons_zero] at g3))
          exact ⟨(HD.out _ _ hg hown).2, HS.out.2 _ hz2 HN.out (HD.out _ _ hg hown).1⟩
        | true =>
          have hz1 : ¬ 0 ≤ z1 := fun h => hst ⟨rfl, h⟩
          gi_wp2_with (first | (refine ⟨trivial, ?_⟩; gi_at_call 61; refine (CallsIn.inRound y (callsIn_wide.2 HC1.out)).mono ?_; rintro e w' ⟨rfl, rfl⟩; clear HC1) | (refine ⟨trivial, ?_⟩; gi_at_call 61; refine (CallsIn.inRound y (callsIn_wide.2 HC2.out)).mono ?_; rintro e w' ⟨rfl, rfl⟩; clear HC2) | (gi_at_builtin; refine wpListIn_append_own _ rfl _ _ _ rfl x.top 82 i0 _ 2 48 Try.underlying35 hi0 hz0 hz1i hz2i rfl (by omega) _ _ xs rfl (HO.out.alloc _) ⟨W.heap.size, 0, none⟩ 1 1 x.cs rfl rfl (reads_cells (rec_new (base := 0) (cs := x.cs) rfl) (by omega)) (by simp [Came.cs, Value.oneCell']) (by simp only [maxLen]; omega) (by omega) HX.out ?_; intro v' w3 hown hg _; obtain ⟨A9, c9, rfl, _⟩ := own_slice hown; have q3 := (HB.out _ hg).frozen 0; have g3 := (HB.out _ hg).cell 0; simp only [List.getElem?_toArray, List.getElem?_cons_zero] at g3))
          exact ⟨(HD.out _ _ hg hown).2, HS.out.2 _ hz2 HN.out (HD.out _ _ hg hown).1⟩
      · cases bd with
        | false =>
          gi_wp2_with (refine ⟨trivial, ?_⟩; gi_at_call 61; refine (CallsIn.inRound y (callsIn_wide.2 HC2.out)).mono ?_; rintro e w' ⟨rfl, rfl⟩; clear HC2)
          refine ⟨trivial, ?_⟩
          gi_wp2_with (refine ⟨trivial, ?_⟩; gi_at_call 61; refine (CallsIn.inRound y (callsIn_wide.2 HC2.out)).mono ?_; rintro e w' ⟨rfl, rfl⟩; clear HC2)
          exact ⟨Keep.refl _ _, HS.out.1 hz2 HN.out⟩
        | true =>
          have hz1 : ¬ 0 ≤ z1 := fun h => hst ⟨rfl, h⟩
          gi_wp2_with (first | (refine ⟨trivial, ?_⟩; gi_at_call 61; refine (CallsIn.inRound y (callsIn_wide.2 HC1.out)).mono ?_; rintro e w' ⟨rfl, rfl⟩; clear HC1) | (refine ⟨trivial, ?_⟩; gi_at_call 61; refine (CallsIn.inRound y (callsIn_wide.2 HC2.out)).mono ?_; rintro e w' ⟨rfl, rfl⟩; clear HC2))
          exact ⟨Keep.refl _ _, HS.out.1 hz2 HN.out⟩
  case done =>
    rintro D ys W hD hF ⟨hI, hpass⟩ hK
    have HE := Lib.hid (show spanL frm to bd l = (prs ys).filter (spanTake frm) from by rw [hF]; exact spanL_all (hF ▸ hpass))
    obtain ⟨A9, c9, b9, hc, ho⟩ := hI.fin
    have g9 := b9.cell 0
    simp only [List.getElem?_toArray, List.getElem?_cons_zero] at g9
    have HI := Lib.hid (show _ ∧ _ ∧ _ from ⟨hI.k, hc, ho⟩)
    clear hI hpass hc ho b9 hF hseq hI0
    generalize (prs ys).filter (spanTake frm) = out at *
    gi_wp2
    refine ⟨by simp, .inl ⟨_, _, rfl, run_takeDeferred hK, ?_⟩⟩
    have hnc : NoCells W (fun b => b = D) := fun b e => by subst e; exact ⟨_, hK, rfl⟩
    refine ⟨_, results_tmp rfl _ _ _, ?_⟩
    rw [HE.out]
    exact ⟨A9, c9, rfl, HI.out.2.1, HI.out.2.2.keepNC (keep_putObj _ _ _) hnc, HI.out.1.trans (keep_putObj _ _ _) (fun b e => .inr (by have : b = D := e; omega))⟩
  case stop =>
    rintro D cd pre W hD hP ⟨rfl, pre', x, rfl, hI, hpass, hst⟩ hK
    have HE := Lib.hid (show spanL frm to bd l = (prs pre').filter (spanTake frm) from spanL_cut (by simpa [prs] using hP) hpass hst)
    obtain ⟨A9, c9, b9, hc, ho⟩ := hI.fin
    have g9 := b9.cell 0
    simp only [List.getElem?_toArray, List.getElem?_cons_zero] at g9
    have HI := Lib.hid (show _ ∧ _ ∧ _ from ⟨hI.k, hc, ho⟩)
    clear hI hpass hc ho b9 hP hseq hI0
    generalize (prs pre').filter (spanTake frm) = out at *
    gi_wp2
    refine ⟨by simp, .inl ⟨_, _, rfl, run_takeDeferred hK, ?_⟩⟩
    have hnc : NoCells W (fun b => b = D) := fun b e => by subst e; exact ⟨_, hK, rfl⟩
    refine ⟨_, results_tmp rfl _ _ _, ?_⟩
    rw [HE.out]
    exact ⟨A9, c9, rfl, HI.out.2.1, HI.out.2.2.keepNC (keep_putObj _ _ _) hnc, HI.out.1.trans (keep_putObj _ _ _) (fun b e => .inr (by have : b = D := e; omega))⟩
end Go.Proofs.Ytdmckjojeddaaaa

namespace Go.Proofs.Ytdmckjojeddaaaa
open Go.RowKit Go.Proofs.YtdmckjojeddaaaaKit Go.Proofs.YtdmckjojeddaaaaPlain
attribute [local go_sem] Oper.semAt_some

/-- Cells that hold bytes. -/
def ByteCells (W : World) (A : Option Addr) (n : Nat) (S : Nat → Prop) : Prop := 0 < n → ∃ g, A = some ⟨g, 0, none⟩ ∧ S g ∧ ∀ j, j < n → (∃ i, W.cell? ⟨g, j, none⟩ = some (.int .u8 i)) ∧ W.frozen? ⟨g, j, none⟩ = false
section
variable {W : World} {A : Option Addr} {n : Nat} {S : Nat → Prop}
theorem add_zero_ (g j : Nat) : (⟨g, 0, none⟩ : Addr).add j = ⟨g, j, none⟩ := by
  unfold Addr.add
  by_cases h : j = 0 <;> simp [h]
theorem ByteCells.of_own {lo c : Nat} {bs : List UInt8} (h : W.ownsRow lo 5 1 (.slice A n c) n (byteVs bs)) (hs : ∀ b, (Value.slice A n c).ownBlock = some b → S b) : ByteCells W A n S := fun hn => by
  have hb := Bytes.of_own (base := 0) h
  rcases h.2 with ⟨e, _⟩ | ⟨g, cap, cur, e, _, h4, _⟩
  · injection e with _ e; omega
  · injection e with e1 e2 e3
    subst e1
    refine ⟨g, rfl, hs g (by simp [Value.ownBlock]), fun j hj => ⟨?_, Blk.frozen (show Blk W g 5 _ from h4) j⟩⟩
    obtain ⟨ad, e, hc⟩ := hb.at_ hj
    injection e with e
    subst e
    rw [add_zero_ g j] at hc
    exact ⟨_, hc⟩
theorem ByteCells.set (h : ByteCells W A n S) {g j : Nat} {i i' : Int} (hc : W.cell? ⟨g, j, none⟩ = some (.int .u8 i)) : ByteCells (W.setCell ⟨g, j, none⟩ (.int .u8 i')) A n S := fun hn => by
  obtain ⟨g', e, hs, hh⟩ := h hn
  refine ⟨g', e, hs, fun j' hj' => ?_⟩
  obtain ⟨⟨i2, h1⟩, h2⟩ := hh j' hj'
  refine ⟨?_, by rw [World.frozen?_setCell]; exact h2⟩
  by_cases he : (⟨g, j, none⟩ : Addr) = ⟨g', j', none⟩
  · rw [← he]; exact ⟨_, World.cell?_setCell_same' _ _ _ (by rw [hc]; rfl)⟩
  · exact ⟨i2, (World.cell?_setCell_other _ _ _ _ he).trans h1⟩
theorem ByteCells.put (h : ByteCells W A n S) {p : Addr} {u : Value} (hp : ¬ S p.block) : ByteCells (W.setCell p u) A n S := fun hn => by
  obtain ⟨g', e, hs, hh⟩ := h hn
  refine ⟨g', e, hs, fun j' hj' => ?_⟩
  obtain ⟨⟨i2, h1⟩, h2⟩ := hh j' hj'
  exact ⟨⟨i2, (World.cell?_setCell_other _ _ _ _ (fun (e : p = ⟨g', j', none⟩) => hp (by rw [e]; exact hs))).trans h1⟩, by rw [World.frozen?_setCell]; exact h2⟩
theorem ByteCells.drewN (h : ByteCells W A n S) (k : Nat) : ByteCells (W.drewN k) A n S := h
end

theorem prs_at {l : List Pair} {pre : List Came} {x : Came} (h : prs (pre ++ [x]) <+: l) : ∃ hlt : pre.length < l.length, l[pre.length] = x.pr := by
  obtain ⟨r, rfl⟩ := h
  have : (prs (pre ++ [x]) ++ r)[pre.length]? = some x.pr := by simp [prs]
  obtain ⟨h1, h2⟩ := List.getElem?_eq_some_iff.1 this
  exact ⟨h1, h2⟩
/-- Between two rounds of ranged. -/
structure RangedI (w : World) (L : Option Addr) (m d q : Nat) (W : World) : Prop where
  k : Keep No w W
  b3 : Blk W w.heap.size 35 #[.slice L m d]
  b5 : Blk W (w.heap.size + 1) 3 #[.int .i64 q]
  b6 : Blk W (w.heap.size + 1 + 1) 4 #[.bool true]
theorem RangedI.stable {w : World} {L : Option Addr} {m d q B0 : Nat} (hB : w.heap.size ≤ B0) {A W : World} {S : Nat → Prop} (h : RangedI w L m d q A) (hk : Keep S A W) (hn : NoCells A S) (hs : ∀ b, S b → B0 ≤ b) : RangedI w L m d q W :=
  ⟨h.k.trans hk (fun b hb => .inr (Nat.le_trans hB (hs b hb))), blk_keepNC h.b3 hk hn, blk_keepNC h.b5 hk hn, blk_keepNC h.b6 hk hn⟩
/-- Within a round. -/
structure RangedB (w W : World) (L : Option Addr) (m d q : Nat) (sp : Nat → Prop) (A B : Option Addr) (n n' : Nat) (S : Nat → Prop) (wr : World) : Prop where
  i : RangedI w L m d q wr
  kW : Keep (fun b => b < w.heap.size + 4 ∨ sp b) W wr
  cA : ByteCells wr A n S
  cB : ByteCells wr B n' S
section
variable {w W wr : World} {L : Option Addr} {m d q n n' : Nat} {sp : Nat → Prop} {A B : Option Addr} {S : Nat → Prop}
theorem RangedB.store (h : RangedB w W L m d q sp A B n n' S wr) (hS : ∀ b, S b → sp b ∧ w.heap.size + 4 ≤ b) {g j : Nat} {i i' : Int} (hg : S g) (hc : wr.cell? ⟨g, j, none⟩ = some (.int .u8 i)) : RangedB w W L m d q sp A B n n' S (wr.setCell ⟨g, j, none⟩ (.int .u8 i')) := by
  have h2 := (hS g hg).2
  exact ⟨⟨h.i.k.trans ((Keep.refl (fun b => b = g) wr).setCell (p := ⟨g, j, none⟩) (.inl rfl) _) (fun b e => .inr (by have : b = g := e; omega)), h.i.b3.far (by simp <;> omega) _, h.i.b5.far (by simp <;> omega) _, h.i.b6.far (by simp <;> omega) _⟩,
    h.kW.setCell (p := ⟨g, j, none⟩) (.inl (.inr (hS g hg).1)) _, h.cA.set hc, h.cB.set hc⟩
end

set_option maxHeartbeats 2000000 in
set_option maxRecDepth 100000 in
theorem ranged_any {base : Nat} {w : World} {mb : Nat} {seed : Int} {l : List Pair} {F : List Nat} {L : Option Addr} {d : Nat} (h : MSt base w mb seed l F) (hb : base ≤ w.heap.size) (hsz : l.length ≤ 900000) (hok : Small l)
    (hl : Pairs base w L l.length l) :
    Calls Try.prog 76 #[.pointer (some ⟨mb, 0, none⟩), .slice L l.length d] w fun e w' => e = .returned (.bool true) ∧ Keep No w w' := by
  refine (callsIn_wide (n := 3)).1 ?_
  refine callsIn_of_wp_marks Try.func76 rfl trivial ?_ rfl
  simp only [Try.ntmps76, List.size_toArray, List.length_cons, List.length_nil, Nat.reduceAdd, Nat.reduceSub, Array.replicate_succ, Array.replicate_zero, List.push_toArray, List.append_toArray, List.nil_append, List.cons_append]
  gi_wp2_with (refine ⟨trivial, ?_⟩; gi_at_call 41; refine (callsIn_wide.2 (all_any _ _)).mono ?_; rintro e w' ⟨rfl, rfl⟩)
  obtain ⟨w0, hw0⟩ : ∃ w0, ((((w.alloc (Obj.cells #[Value.slice L l.length d] 35)).alloc (Obj.cells #[Value.int IntKind.i64 0] 3)).alloc (Obj.cells #[Value.bool true] 4)).alloc (Obj.cells #[Value.pointer (some { block := mb, off := 0 })] 38)) = w0 := ⟨_, rfl⟩
  have hz : w0.heap.size = w.heap.size + 4 := by rw [← hw0]; simp
  have hk0 : Keep No w w0 := by rw [← hw0]; exact ((((Keep.refl No w).alloc _).alloc _).alloc _).alloc _
  rw [hw0]
  have hI0 : RangedI w L l.length d 0 w0 := by
    refine ⟨hk0, ?_, ?_, ?_⟩
    · rw [← hw0]; exact (((blk_at rfl).alloc _).alloc _).alloc _
    · rw [← hw0]; exact ((blk_at (by simp)).alloc _).alloc _
    · rw [← hw0]; exact (blk_at (by simp)).alloc _
  have hbx : w0.cell? ⟨w.heap.size + 1 + 1 + 1, 0, none⟩ = some (.pointer (some ⟨mb, 0, none⟩)) := by
    have := (show Blk w0 (w.heap.size + 1 + 1 + 1) _ _ from by rw [← hw0]; exact blk_at (by simp)).cell 0
    simpa using this
  have H1 := Lib.hid (show _ ∧ _ from ⟨hl, hok⟩)
  have hseq := seq_any (n := 2) (by omega) (h.new_ hk0) (Nat.le_trans hb hk0.size) (by omega) hbx (by omega)
  clear hw0 h hl hok hbx
  refine wpIn_rangeR (F := Fence.wide) rfl (by omega) (gf := 79) (lb := #[.pointer (some ⟨w.heap.size + 1 + 1 + 1, 0, none⟩)]) rfl trivial (enters_of Try.func79 (by kernel_rfl) rfl) hseq (fun _ => rfl) Came.stable
    (fun pre W => RangedI w L l.length d pre.length W)
    (fun _ _ _ => False)
    (fun s A B S hs hk hn hB => hs.stable (by omega) hk hn hB)
    (fun cd s A B S hs hk hn hB => hs)
    hI0
    (fun x => { tmps := #[Value.pointer (some { block := mb, off := 0 }), Value.slice L l.length d, undef, Value.pointer (some { block := w.heap.size, off := 0 }), Value.bool false, Value.pointer (some { block := w.heap.size + 1, off := 0 }), Value.pointer (some { block := w.heap.size + 1 + 1, off := 0 }), Value.slice x.A x.k.length x.c, Value.slice x.B x.v.length x.d, undef, undef, Value.pointer (some { block := mb, off := 0 }), Value.func (Fn.func 79) #[] #[Value.pointer (some { block := w.heap.size + 1 + 1 + 1, off := 0 })], Value.slice x.A x.k.length x.c, Value.slice x.B x.v.length x.d, undef, undef, undef, undef, undef, undef, undef, undef, undef, undef, undef, undef, undef, undef, undef, undef, undef, undef, undef, undef, undef, undef, undef, undef, undef, undef, undef, undef, undef, undef, undef, undef, undef, undef, undef, undef, undef, undef, undef, undef, undef, undef, undef, undef, undef, undef, undef, undef, undef, undef, undef, undef, undef, undef, undef, undef, undef, undef, undef, undef, undef, undef], defers := [] }) ?assign ?body ?done ?stop
  case assign =>
    intro l x W K hK
    dsimp only [Came.enc]
    gi_wp2
    exact hK
  case stop =>
    rintro D cd pre W hD hP h _
    exact h.elim
  case done =>
    rintro D ys W hD hF hI hK
    have hlen : ys.length = l.length := by rw [← hF]; simp [prs]
    have g3 := hI.b3.cell 0
    have g5 := hI.b5.cell 0
    have g6 := hI.b6.cell 0
    simp only [List.getElem?_toArray, List.getElem?_cons_zero] at g3 g5 g6
    rw [hlen] at g5
    have HI := Lib.hid hI.k
    clear hI hF hseq hI0
    gi_wp2
    refine ⟨by simp, .inl ⟨_, _, rfl, run_takeDeferred hK, ?_⟩⟩
    refine ⟨_, results_tmp rfl _ _ _, rfl, HI.out.trans (keep_putObj _ _ _) (fun b e => .inr (by have : b = D := e; omega))⟩
  case body =>
    rintro y pre x W hI hM hsp hWs
    rw [hz] at hM ⊢
    have hM' := hM
    obtain ⟨m1, m2, m3, m4, m5, m6, m7⟩ := hM'
    obtain ⟨hlt, hx⟩ := prs_at m1
    have hcm := m3.came
    have hsm := H1.out.2 x.pr (hx ▸ List.getElem_mem hlt)
    have hlw := H1.out.1.keep hI.k (fun _ h => h.elim)
    obtain ⟨ad, A1, c1, A2, c2, rfl, him, e0, e1, b1, b2⟩ := hlw.at_ hlt
    rw [hx] at e0 e1 b1 b2
    simp only [Came.pr] at e0 e1 b1 b2 hsm
    have HS1 := Lib.hid ((same_any x.A A1 x.k.length x.c x.k.length c1 x.k x.k W (Bytes.of_own (base := base) hcm.1) b1 (by omega) (by omega)).mono (R' := fun e w' => e = .returned (.bool true) ∧ Drawn W w') (by rintro e w' ⟨rfl, h⟩; exact ⟨by simp, h⟩))
    have HS2 := Lib.hid (fun a => (same_any x.B A2 x.v.length x.d x.v.length c2 x.v x.v (W.drewN a) ((Bytes.of_own (base := base) hcm.2).drewN a) (b2.drewN a) (by omega) (by omega)).mono (R' := fun e w' => e = .returned (.bool true) ∧ Drawn (W.drewN a) w') (by rintro e w' ⟨rfl, h⟩; exact ⟨by simp, h⟩))
    obtain ⟨S, hS⟩ : ∃ S : Nat → Prop, S = fun b => x.sp b ∧ w.heap.size + 4 ≤ b := ⟨_, rfl⟩
    have hSb : ∀ b, S b → x.sp b ∧ w.heap.size + 4 ≤ b := fun b hb => by rw [hS] at hb; exact hb
    have HSB := Lib.hid hSb
    have g3 := hI.b3.cell 0
    have g5 := hI.b5.cell 0
    have g6 := hI.b6.cell 0
    have q6 := hI.b6.frozen 0
    simp only [List.getElem?_toArray, List.getElem?_cons_zero] at g3 g5 g6
    have HB0 := Lib.hid (show ∀ q1, RangedB w W (some ad) l.length d pre.length x.sp x.A x.B x.k.length x.v.length S ((W.drewN q1).setCell ⟨w.heap.size + 1 + 1, 0, none⟩ (.bool true)) from fun q1 =>
      ⟨⟨(hI.k.drewN q1).trans ((Keep.refl (fun b => b = w.heap.size + 1 + 1) _).setCell (p := ⟨w.heap.size + 1 + 1, 0, none⟩) (.inl rfl) _) (fun b e => .inr (by have : b = w.heap.size + 1 + 1 := e; omega)),
        (hI.b3.drewN q1).far (by simp <;> omega) _, (hI.b5.drewN q1).far (by simp) _, by have := (hI.b6.drewN q1).set_ 0 (.bool true); simpa using this⟩,
        ((Keep.refl (fun b => b < w.heap.size + 4 ∨ x.sp b) W).drewN q1).setCell (p := ⟨w.heap.size + 1 + 1, 0, none⟩) (.inl (.inl (by simp <;> omega))) _,
        ((ByteCells.of_own hcm.1 (fun b e => by rw [hS]; exact ⟨.inl e, by have := (World.ownsRow.lt hcm.1 b e).1; omega⟩)).drewN q1).put (fun h => by have := (hSb _ h).2; simp at this; omega),
        ((ByteCells.of_own hcm.2 (fun b e => by rw [hS]; exact ⟨.inr (.inl e), by have := (World.ownsRow.lt hcm.2 b e).1; omega⟩)).drewN q1).put (fun h => by have := (hSb _ h).2; simp at this; omega)⟩)
    have hab := him.lt
    clear hlw b1 b2 hcm m3 hM hSb hI him hx m1 m7 hS hsp
    obtain ⟨sp, hsp⟩ : ∃ sp, sp = x.sp := ⟨_, rfl⟩
    rw [← hsp] at HB0 HSB ⊢
    clear hsp
    cases x with | mk xk xv xA xc xB xd xlo xmid xtop =>
    dsimp only at *
    gi_wp2_with (first
      | (refine ⟨trivial, ?_⟩; gi_at_call 18; refine (CallsIn.inRound y (callsIn_wide.2 HS1.out)).mono ?_; rintro e w' ⟨rfl, q1, rfl⟩; clear HS1)
      | (refine ⟨trivial, ?_⟩; gi_at_call 18; refine (CallsIn.inRound y (callsIn_wide.2 (HS2.out _))).mono ?_; rintro e w' ⟨rfl, q2, rfl⟩; clear HS2))
    gi_loopw [42] (fun v wr => ∃ k : Nat, k ≤ xk.length ∧ v = .int .i64 k ∧ Hid (RangedB w W (some ad) l.length d pre.length sp xA xB xk.length xv.length S wr)) (fun i _ => xk.length - (intOf i).toNat)
    case atStart => exact ⟨0, Nat.zero_le _, rfl, Lib.hid (HB0.out _)⟩
    case round =>
      obtain ⟨k, hk, rfl, hB⟩ := hrel
      by_cases hlt2 : k < xk.length
      · obtain ⟨g, eA, hs, hh⟩ := hB.out.cA (by omega)
        obtain ⟨⟨i, hc⟩, hf⟩ := hh k hlt2
        obtain ⟨ag, eag⟩ : ∃ ag : Addr, ag = ⟨g, 0, none⟩ := ⟨_, rfl⟩
        have HST := Lib.hid (show ∀ i', RangedB w W (some ad) l.length d pre.length sp xA xB xk.length xv.length S (wr.setCell (ag.add k) (.int .u8 i')) from fun i' => by rw [eag, add_zero_]; exact RangedB.store hB.out HSB.out hs hc)
        rw [← add_zero_, ← eag] at hc hf
        rw [← eag] at eA
        clear hB hh hs eag
        subst eA
        gi_wp2
        go_roundw
        case rel => exact ⟨k + 1, by omega, by go_num, Lib.hid (HST.out _)⟩
        case measure => simp [intOf]; omega
      · obtain rfl : k = xk.length := by omega
        gi_wp2
        gi_loopw [56] (fun v wr => ∃ k : Nat, k ≤ xv.length ∧ v = .int .i64 k ∧ Hid (RangedB w W (some ad) l.length d pre.length sp xA xB xk.length xv.length S wr)) (fun i _ => xv.length - (intOf i).toNat)
        case atStart => exact ⟨0, Nat.zero_le _, rfl, hB⟩
        case round =>
          obtain ⟨k, hk, rfl, hB⟩ := hrel
          by_cases hlt2 : k < xv.length
          · obtain ⟨g, eA, hs, hh⟩ := hB.out.cB (by omega)
            obtain ⟨⟨i, hc⟩, hf⟩ := hh k hlt2
            obtain ⟨ag, eag⟩ : ∃ ag : Addr, ag = ⟨g, 0, none⟩ := ⟨_, rfl⟩
            have HST := Lib.hid (show ∀ i', RangedB w W (some ad) l.length d pre.length sp xA xB xk.length xv.length S (wr.setCell (ag.add k) (.int .u8 i')) from fun i' => by rw [eag, add_zero_]; exact RangedB.store hB.out HSB.out hs hc)
            rw [← add_zero_, ← eag] at hc hf
            rw [← eag] at eA
            clear hB hh hs eag
            subst eA
            gi_wp2
            go_roundw
            case rel => exact ⟨k + 1, by omega, by go_num, Lib.hid (HST.out _)⟩
            case measure => simp [intOf]; omega
          · obtain rfl : k = xv.length := by omega
            have c5 := hB.out.i.b5.cell 0
            have f5 := hB.out.i.b5.frozen 0
            simp only [List.getElem?_toArray, List.getElem?_cons_zero] at c5
            gi_wp2
            have kk : Keep (fun b => b = w.heap.size + 1) wr (wr.setCell ⟨w.heap.size + 1, 0, none⟩ (.int .i64 (pre.length + 1))) := (Keep.refl (fun b => b = w.heap.size + 1) wr).setCell (p := ⟨w.heap.size + 1, 0, none⟩) (.inl rfl) _
            refine ⟨hB.out.kW.setCell (p := ⟨w.heap.size + 1, 0, none⟩) (.inl (.inl (by simp <;> omega))) _, hB.out.i.k.trans kk (fun b e => .inr (by have : b = w.heap.size + 1 := e; omega)), hB.out.i.b3.far (by simp) _, ?_, hB.out.i.b6.far (by simp) _⟩
            have := hB.out.i.b5.set_ 0 (.int .i64 (pre.length + 1))
            simpa using this
end Go.Proofs.Ytdmckjojeddaaaa
