/- OrderYields: the range. Conditions: each names its own. -/
import Derived.Test.YtdmckjojeddaaaaYA
namespace Go.Proofs.Ytdmckjojeddaaaa
open Go.RowKit Go.Proofs.YtdmckjojeddaaaaKit Go.Proofs.YtdmckjojeddaaaaPlain
attribute [local go_sem] Oper.semAt_some

/-! ### The statement -/
def firstRange : Code → Option Code
  | .rangeFunc g ps a b => some (.rangeFunc g ps a b)
  | .loop c => firstRange c
  | .seq a b => match firstRange a with
    | some c => some c
    | none => firstRange b
  | .block _ c => firstRange c
  | .scope c => firstRange c
  | .cond _ a b => match firstRange a with
    | some c => some c
    | none => firstRange b
  | _ => none
def rangeBody : Code → Code
  | .rangeFunc _ _ _ b => b
  | c => c
noncomputable def yRange : Code := ((Try.f9.body.bind firstRange).getD .skip)
noncomputable def yBody : Code := rangeBody yRange

/-! ### What lies in memory -/
/-- What the whole function has laid. -/
structure YSt (lim : Nat) (w W : World) (b5 b6 b7 b10 mb : Nat) (stop : Int) (A : Option Addr) (n c : Nat) (B : Option Addr) (n2 c2 : Nat) : Prop where
  k : Keep No w W
  r2 : Blk W (w.heap.size + 1) 4 #[.bool false]
  r5 : Blk W b5 3 #[.int .i64 stop]
  r6 : Blk W b6 23 #[.slice A n c]
  r7 : Blk W b7 23 #[.slice B n2 c2]
  r10 : Blk W b10 38 #[.pointer (some ⟨mb, 0, none⟩)]
  l2 : w.heap.size + 1 < lim
  l5 : b5 < lim
  l6 : b6 < lim
  l7 : b7 < lim
  l10 : b10 < lim
section
variable {lim : Nat} {w W W' : World} {b5 b6 b7 b10 mb : Nat} {stop : Int} {A : Option Addr} {n c : Nat} {B : Option Addr} {n2 c2 : Nat} {S : Nat → Prop} {base : Nat}
theorem YSt.keep_ (h : YSt lim w W b5 b6 b7 b10 mb stop A n c B n2 c2) (hk : Keep S W W') (hw : ∀ b, S b → w.heap.size ≤ b) (hs : ∀ b t cs, Blk W b t cs → mutTy t = false → b < lim → ¬ S b) : YSt lim w W' b5 b6 b7 b10 mb stop A n c B n2 c2 :=
  ⟨h.k.trans hk (fun b hb => .inr (hw b hb)), h.r2.keep hk (hs _ _ _ h.r2 rfl h.l2), h.r5.keep hk (hs _ _ _ h.r5 rfl h.l5), h.r6.keep hk (hs _ _ _ h.r6 rfl h.l6), h.r7.keep hk (hs _ _ _ h.r7 rfl h.l7), h.r10.keep hk (hs _ _ _ h.r10 rfl h.l10), h.l2, h.l5, h.l6, h.l7, h.l10⟩
theorem YSt.ge (h : YSt lim w W b5 b6 b7 b10 mb stop A n c B n2 c2) (hk : Keep S W W') (hs : ∀ b, S b → lim ≤ b) : YSt lim w W' b5 b6 b7 b10 mb stop A n c B n2 c2 :=
  h.keep_ hk (fun b hb => by have := hs b hb; have := h.l2; omega) (fun b _ _ _ _ hl hS => by have := hs b hS; omega)
theorem YSt.new_ (h : YSt lim w W b5 b6 b7 b10 mb stop A n c B n2 c2) (hk : Keep No W W') : YSt lim w W' b5 b6 b7 b10 mb stop A n c B n2 c2 := h.ge hk (fun _ x => x.elim)
theorem YSt.mut_ (h : YSt lim w W b5 b6 b7 b10 mb stop A n c B n2 c2) (hk : Keep S W W') (hw : ∀ b, S b → w.heap.size ≤ b) (hs : ∀ b, S b → Mut base W b) : YSt lim w W' b5 b6 b7 b10 mb stop A n c B n2 c2 :=
  h.keep_ hk hw (fun b _ _ hb ht _ hS => blk_notMut hb ht (hs b hS))
theorem YSt.nc (h : YSt lim w W b5 b6 b7 b10 mb stop A n c B n2 c2) (hk : Keep S W W') (hw : ∀ b, S b → w.heap.size ≤ b) (hs : NoCells W S) : YSt lim w W' b5 b6 b7 b10 mb stop A n c B n2 c2 :=
  h.keep_ hk hw (fun b t cs hb _ _ hS => by
    obtain ⟨o, e, ho⟩ := hs b hS
    rw [show W.heap[b]? = _ from hb] at e
    injection e with e
    subst e
    cases ho)
end
theorem imm_nc {base e : Nat} {w : World} {k : Nat} {S : Nat → Prop} (h : Imm base e w k) (hs : NoCells w S) (hb : ∀ b, S b → base ≤ b) : ¬ S k := fun hS => by
  obtain ⟨o, e1, ho⟩ := hs k hS
  rcases h.2.2 with h2 | ⟨cs, f, e2⟩
  · have := hb k hS; omega
  · rw [e2] at e1
    injection e1 with e1
    subst e1
    cases ho
theorem rep_imm {S : Nat → Prop} {base : Nat} {w w' : World} {seed : Int} : ∀ {t : AT}, Rep base w seed t → Keep S w w' → (∀ b ∈ t.blocks, ¬ S b) → (∀ k, Imm base 5 w k → ¬ S k) → Rep base w' seed t
  | .nil, _, _, _, _ => trivial
  | .node b k v l r, h, hk, hb, hi => by
    refine ⟨?_, rep_imm h.2.1 hk (fun x hx => hb x (List.mem_cons_of_mem _ (List.mem_append_left _ hx))) hi, rep_imm h.2.2 hk (fun x hx => hb x (List.mem_cons_of_mem _ (List.mem_append_right _ hx))) hi⟩
    obtain ⟨h1, h2, A, c, B, d, hB, hA, hV⟩ := h.1
    exact ⟨h1, h2, A, c, B, d, hB.keep hk (hb b List.mem_cons_self), reads_stay hA hk (fun h0 ad e => by obtain ⟨ad', e', h9, _⟩ := hA.2 h0; rw [e'] at e; injection e with e; subst e; exact hi _ h9), reads_stay hV hk (fun h0 ad e => by obtain ⟨ad', e', h9, _⟩ := hV.2 h0; rw [e'] at e; injection e with e; subst e; exact hi _ h9)⟩
theorem MStC.imm {Bad S : Nat → Prop} {base : Nat} {w w' : World} {mb : Nat} {seed : Int} {l : PairL} {F : List Nat} (h : MStC Bad base w mb seed l F) (hk : Keep S w w') (hm : ∀ b, S b → ¬ Mut base w b) (hi : ∀ k, Imm base 5 w k → ¬ S k) : MStC Bad base w' mb seed l F := by
  obtain ⟨t, h1, h2, h3, h4, h5⟩ := h
  have hb : ∀ b ∈ t.blocks, ¬ S b := fun b hb hS => hm b hS (h1.rep.mut b hb)
  exact ⟨t, ⟨h1.has.keep hk (fun hS => hm _ hS h1.has.mut), rep_imm h1.rep hk hb hi, h1.nodup⟩, h2, h3, h4, fun b hbm i hi A n c hn hc => h5 b hbm i hi A n c hn ((hk.cell (p := ⟨b, i, none⟩) (h1.rep.lt hbm) (hb b hbm)).symm.trans hc)⟩
theorem MStC.nc {Bad S : Nat → Prop} {base : Nat} {w w' : World} {mb : Nat} {seed : Int} {l : PairL} {F : List Nat} (h : MStC Bad base w mb seed l F) (hk : Keep S w w') (hs : NoCells w S) (hb : ∀ b, S b → base ≤ b) : MStC Bad base w' mb seed l F :=
  h.imm hk (fun b hS hm => by
    obtain ⟨o, e1, ho⟩ := hs b hS
    obtain ⟨_, cs, t, f, e2, _⟩ := hm
    rw [e2] at e1
    injection e1 with e1
    subst e1
    cases ho) (fun k hi => imm_nc hi hs hb)
theorem imm_nb {base : Nat} {w : World} {k : Nat} {S : Nat → Prop} (h : Imm base 5 w k) (hs : NoBytes w S) (hb : ∀ b, S b → base ≤ b) : ¬ S k := fun hS => by
  obtain ⟨cs, t, f, e1, ht⟩ := hs k hS
  rcases h.2.2 with h2 | ⟨cs', f', e2⟩
  · have := hb k hS; omega
  · rw [e2] at e1
    injection e1 with e1
    injection e1 with _ e1
    exact ht e1.symm

/-- What every step of the loops knows. -/
structure YC where
  lim : Nat
  base : Nat
  w : World
  W0 : World
  b5 : Nat
  b6 : Nat
  b7 : Nat
  b10 : Nat
  b13 : Nat
  b14 : Nat
  mb : Nat
  stop : Int
  tw : Int
  A : Option Addr
  n : Nat
  c : Nat
  B : Option Addr
  n2 : Nat
  c2 : Nat
  seed : Int
  dd : List Nat
/-- Between two rounds. -/
structure YI (y : YC) (ml : Nat → PairL) (pre : List Came) (W : World) : Prop where
  st : YSt y.lim y.w W y.b5 y.b6 y.b7 y.b10 y.mb y.stop y.A y.n y.c y.B y.n2 y.c2
  t13 : Blk W y.b13 3 #[.int .i64 y.tw]
  l13 : y.lim ≤ y.b13 ∧ y.b13 < y.W0.heap.size
  l14 : y.lim ≤ y.b14 ∧ y.b14 < y.W0.heap.size
  k0 : y.base ≤ y.W0.heap.size ∧ y.W0.heap.size ≤ W.heap.size
  hd : ∀ D ∈ y.dd, D < y.W0.heap.size ∧ W.heap[D]? = some (.deferred (some []))
  kq : Keep (fun b => b = y.b14 ∨ Mut y.base y.W0 b) y.W0 W
  ex : ∃ T v F, Blk W y.b14 35 #[v] ∧ (∀ z ∈ pre, z.top = T) ∧ (pre = [] → v = .slice none 0 0) ∧ y.W0.heap.size ≤ T ∧ T ≤ W.heap.size ∧ OwnPI T (prs pre) v W ∧
    MStC (fun b => y.W0.heap.size ≤ b ∧ ∀ z ∈ pre, b < z.top) y.base W y.mb y.seed (ml pre.length) F ∧ ∀ b ∈ F, y.w.heap.size ≤ b ∧ ((b < y.W0.heap.size ∧ Mut y.base y.W0 b) ∨ (pre ≠ [] ∧ T ≤ b))
/-- Within a round. -/
structure YM (y : YC) (pre : List Came) (x : Came) (Ws : World) (l : PairL) (W : World) : Prop where
  st : YSt y.lim y.w W y.b5 y.b6 y.b7 y.b10 y.mb y.stop y.A y.n y.c y.B y.n2 y.c2
  t13 : Blk W y.b13 3 #[.int .i64 y.tw]
  l13 : y.lim ≤ y.b13 ∧ y.b13 < y.W0.heap.size
  l14 : y.lim ≤ y.b14 ∧ y.b14 < y.W0.heap.size
  k0 : y.base ≤ y.W0.heap.size ∧ x.top ≤ W.heap.size
  hd : ∀ D ∈ y.dd, D < y.W0.heap.size ∧ W.heap[D]? = some (.deferred (some []))
  lo : y.W0.heap.size ≤ x.lo ∧ x.lo ≤ x.mid ∧ x.mid ≤ x.top
  tops : ∀ z ∈ pre, z.top = x.top
  kp : Keep (fun b => b < y.W0.heap.size ∨ x.sp b) Ws W
  cm : PairAt W x.lo x.mid x.pr x.cs
  kq : Keep (fun b => b = y.b14 ∨ Mut y.base y.W0 b) y.W0 W
  ex : ∃ v F, Blk W y.b14 35 #[v] ∧ OwnPI x.top (prs (pre ++ [x])) v W ∧ MStC (fun b => y.W0.heap.size ≤ b ∧ b < x.top) y.base W y.mb y.seed l F ∧ ∀ b ∈ F, y.w.heap.size ≤ b ∧ ((b < y.W0.heap.size ∧ Mut y.base y.W0 b) ∨ x.top ≤ b)

theorem dd_keep {W W' : World} {S : Nat → Prop} {lim : Nat} {dd : List Nat} (h : ∀ D ∈ dd, D < lim ∧ W.heap[D]? = some (.deferred (some []))) (hk : Keep S W W') (hs : ∀ D, D < lim → W.heap[D]? = some (.deferred (some [])) → ¬ S D) : ∀ D ∈ dd, D < lim ∧ W'.heap[D]? = some (.deferred (some [])) := fun D hD => by
  obtain ⟨h1, h2⟩ := h D hD
  exact ⟨h1, (hk.block D (loop_lt h2) (hs D h1 h2)).trans h2⟩
theorem def_notBlk {W : World} {D : Nat} {t : TypeId} {cs : Array Value} (h : W.heap[D]? = some (.deferred (some []))) (hb : Blk W D t cs) : False := by
  rw [show W.heap[D]? = _ from hb] at h
  injection h with h
  cases h
theorem def_notMut {base : Nat} {W : World} {D : Nat} (h : W.heap[D]? = some (.deferred (some []))) : ¬ Mut base W D := by
  rintro ⟨_, cs, t, f, e, _⟩
  rw [e] at h
  injection h with h
  cases h
section
variable {y : YC} {ml : Nat → PairL} {pre : List Came} {x : Came} {W W' Ws : World} {l : PairL}
theorem YI.stable {B0 : Nat} (hB : y.W0.heap.size ≤ B0) (hw : y.w.heap.size ≤ y.W0.heap.size) {S : Nat → Prop} (h : YI y ml pre W) (hk : Keep S W W') (hn : NoCells W S) (hs : ∀ b, S b → B0 ≤ b) : YI y ml pre W' := by
  obtain ⟨T, v, F, h1, h2, h3, h4, h5, h6, h7, h8⟩ := h.ex
  exact ⟨h.st.nc hk (fun b hb => by have := hs b hb; omega) hn, blk_keepNC h.t13 hk hn, h.l13, h.l14, ⟨h.k0.1, Nat.le_trans h.k0.2 hk.size⟩, dd_keep h.hd hk (fun D hD _ hS => by have := hs D hS; omega), h.kq.trans hk (fun b hb => .inr (by have := hs b hb; omega)), T, v, F, blk_keepNC h1 hk hn, h2, h3, h4, Nat.le_trans h5 hk.size, h6.keepNC hk hn,
    h7.nc hk hn (fun b hb => by have := hs b hb; have := h.k0.1; omega), h8⟩
/-- The row so far, at the round's own bound. -/
theorem YI.row (h : YI y ml pre W) {L : List Pair} {B0 : Nat} (hM : Came.M L B0 pre x W) (hB : y.W0.heap.size ≤ B0) : ∃ v F, Blk W y.b14 35 #[v] ∧ OwnPI x.top (prs pre) v W ∧ MStC (fun b => y.W0.heap.size ≤ b ∧ b < x.top) y.base W y.mb y.seed (ml pre.length) F ∧
    ∀ b ∈ F, y.w.heap.size ≤ b ∧ ((b < y.W0.heap.size ∧ Mut y.base y.W0 b) ∨ x.top ≤ b) := by
  obtain ⟨T, v, F, h1, h2, h3, h4, h5, h6, h7, h8⟩ := h.ex
  obtain ⟨m1, m2, m3, m4, m5, m6, m7⟩ := hM
  cases pre with
  | nil =>
    obtain rfl := h3 rfl
    exact ⟨_, F, h1, OwnPI.start m6, h7.weak (fun b hb => ⟨hb.1, fun z hz => by cases hz⟩), fun b hb => ⟨(h8 b hb).1, (h8 b hb).2.elim .inl (fun h => absurd rfl h.1)⟩⟩
  | cons z pre =>
    have e : T = x.top := by rw [← h2 z List.mem_cons_self]; exact (m7 z List.mem_cons_self).2
    subst e
    exact ⟨v, F, h1, h6, h7.weak (fun b hb => ⟨hb.1, fun z' hz' => by rw [h2 z' hz']; exact hb.2⟩), fun b hb => ⟨(h8 b hb).1, (h8 b hb).2.elim .inl (fun h => .inr h.2)⟩⟩
/-- Behind the append. -/
theorem YM.start (h : YI y ml pre W) {L : List Pair} {B0 : Nat} (hM : Came.M L B0 pre x W) (hB : y.W0.heap.size ≤ B0) (hlim : y.lim ≤ y.W0.heap.size) (hbl : y.base ≤ y.lim) {v v5 : Value} {F : List Nat} {w5 : World} (h1 : Blk W y.b14 35 #[v])
    (h2 : OwnPI x.top (prs pre) v W) (h3 : MStC (fun b => y.W0.heap.size ≤ b ∧ b < x.top) y.base W y.mb y.seed (ml pre.length) F) (h4 : ∀ b ∈ F, y.w.heap.size ≤ b ∧ ((b < y.W0.heap.size ∧ Mut y.base y.W0 b) ∨ x.top ≤ b))
    (h5 : OwnPI x.top (prs pre ++ [x.pr]) v5 w5) (hk : Keep (fun b => v.ownBlock = some b) W w5) : YM y pre x W (ml pre.length) (w5.setCell ⟨y.b14, 0, none⟩ v5) := by
  obtain ⟨m1, m2, m3, m4, m5, m6, m7⟩ := hM
  have hge : ∀ b, v.ownBlock = some b → x.top ≤ b := fun b e => h2.ge e
  have hl14 := h.l14
  have hl13 := h.l13
  have hk2 : Keep (fun b => v.ownBlock = some b ∨ b = y.b14) W (w5.setCell ⟨y.b14, 0, none⟩ v5) := (hk.mono (fun _ e => .inl e)).setCell (p := ⟨y.b14, 0, none⟩) (.inl (.inr rfl)) _
  have hS : ∀ b, (v.ownBlock = some b ∨ b = y.b14) → y.lim ≤ b := fun b hb => hb.elim (fun e => by have := hge b e; omega) (fun e => by omega)
  have hnb : NoBytes W (fun b => v.ownBlock = some b ∨ b = y.b14) := fun b hb => by
    rcases hb with e | rfl
    · obtain ⟨xs, g1, _⟩ := h2
      rcases g1.2 with ⟨rfl, _⟩ | ⟨g, cap, cur, rfl, _, g4, _⟩
      · simp [Value.ownBlock] at e
      · simp [Value.ownBlock] at e; subst e; exact ⟨cur, _, _, g4, by decide⟩
    · exact ⟨_, _, _, h1, by decide⟩
  have hnm : ∀ b, (v.ownBlock = some b ∨ b = y.b14) → ¬ Mut y.base W b := fun b hb => by
    rcases hb with e | rfl
    · obtain ⟨xs, g1, _⟩ := h2
      exact own_notMut g1 rfl e
    · exact blk_notMut h1 rfl
  have hblk : Blk (w5.setCell ⟨y.b14, 0, none⟩ v5) y.b14 35 #[v5] := by
    have := (h1.keep hk (fun e => by have := hge _ e; omega)).set_ 0 v5
    simpa using this
  have hkz := hk2.size
  refine ⟨h.st.ge hk2 hS, h.t13.keep hk2 (fun hb => ?_), h.l13, h.l14, ⟨h.k0.1, Nat.le_trans m6 hkz⟩, dd_keep h.hd hk2 (fun D hD hd hS => hS.elim (fun e => by have := hge D e; omega) (fun e => def_notBlk hd (e ▸ h1))), ⟨by omega, m4, m5⟩, fun z hz => (m7 z hz).2, ?_, m3.keep hk2 hnb, h.kq.trans hk2 (fun b hb => hb.elim (fun e => .inr (by have := hge b e; omega)) (fun e => .inl (.inl e))), v5, F, hblk, ?_, ?_, h4⟩
  · rcases hb with e | e
    · have := hge _ e; omega
    · exact h.t13.ne_ h1 (by decide) e
  · exact hk2.mono (fun b hb => hb.elim (fun e => .inr (.inr (.inr (hge b e)))) (fun e => .inl (by omega)))
  · have : prs (pre ++ [x]) = prs pre ++ [x.pr] := by simp [prs]
    rw [this]
    exact h5.keepGe ((Keep.refl (fun b => b = y.b14) w5).setCell (p := ⟨y.b14, 0, none⟩) (.inl rfl) _) (fun b hb e => by omega)
  · exact h3.imm hk2 hnm (fun k hi => imm_nb hi hnb (fun b hS => by
      have h1' := h.k0.1
      rcases hS with e | e
      · have := hge b e; omega
      · have := h.st.l2; have h9 := h.l14.1; have h8 := hbl; omega))
theorem YM.changed (h : YM y pre x Ws l W) {F : List Nat} {l' : PairL} {W' : World} (h4 : ∀ b ∈ F, y.w.heap.size ≤ b ∧ ((b < y.W0.heap.size ∧ Mut y.base y.W0 b) ∨ x.top ≤ b)) (hmut : ∀ b, In F b → Mut y.base W b) {v : Value} (h1 : Blk W y.b14 35 #[v]) (h2 : OwnPI x.top (prs (pre ++ [x])) v W)
    (hc : ChangedC (fun b => y.W0.heap.size ≤ b ∧ b < x.top) y.base W y.mb y.seed l' F W') : YM y pre x Ws l' W' := by
  obtain ⟨F', m, k, f⟩ := hc
  refine ⟨h.st.mut_ k (fun b hb => (h4 b hb).1) hmut, h.t13.keep k (fun hb => blk_notMut h.t13 rfl (hmut _ hb)), h.l13, h.l14, ⟨h.k0.1, Nat.le_trans h.k0.2 k.size⟩, dd_keep h.hd k (fun D _ hd hS => def_notMut hd (hmut _ hS)), h.lo, h.tops, h.kp.trans k (fun b hb => .inl ((h4 b hb).2.elim (fun e => .inl e.1) (fun e => .inr (.inr (.inr e))))), h.cm.keep k (mut_noBytes hmut), h.kq.trans k (fun b hb => (h4 b hb).2.elim (fun e => .inl (.inr e.2)) (fun e => .inr (by have := h.lo; omega))),
    v, F', h1.keep k (fun hb => blk_notMut h1 rfl (hmut _ hb)), h2.mutKeep k hmut, m, fun b hb => ?_⟩
  rcases f b hb with hb | hb
  · exact h4 b hb
  · have h9 := h.k0.2
    have h8 := h.st.k.size
    exact ⟨Nat.le_trans h8 hb, .inr (Nat.le_trans h9 hb)⟩
theorem YM.put_ (h : YM y pre x Ws l W) {A B : Option Addr} {n c m d : Nat} {key value : List UInt8} (hk : Bytes y.base W A n key) (hv : Bytes y.base W B m value) (hok : keyOk key value) (hsz : l.length < 100000) :
    Calls Try.prog 43 #[.pointer (some ⟨y.mb, 0, none⟩), .slice A n c, .slice B m d] W fun e W' => e = .returned (.int .i64 0) ∧ YM y pre x Ws (putL l key value) W' := by
  obtain ⟨v, F, h1, h2, h3, h4⟩ := h.ex
  have hz := h.k0.2
  have hlo := h.lo
  refine (MPut_clean h3 hk hv hok hsz (by have := h.k0.1; omega) (fun b hb => Nat.lt_of_lt_of_le hb.2 hz)).mono ?_
  rintro e W' ⟨rfl, hc⟩
  exact ⟨rfl, h.changed h4 h3.mst.mut h1 h2 hc⟩
theorem YM.drop_ (h : YM y pre x Ws l W) {A : Option Addr} {n c : Nat} {key : List UInt8} (hk : Bytes y.base W A n key) (hsz : l.length ≤ 900000) (hh : hasL key l = true) :
    Calls Try.prog 44 #[.pointer (some ⟨y.mb, 0, none⟩), .slice A n c] W fun e W' => e = .returned (.int .i64 0) ∧ YM y pre x Ws (dropL l key) W' := by
  obtain ⟨v, F, h1, h2, h3, h4⟩ := h.ex
  refine (mdrop_clean h3 hk hsz hh).mono ?_
  rintro e W' ⟨rfl, hc⟩
  exact ⟨rfl, h.changed h4 h3.mst.mut h1 h2 hc⟩
theorem YM.bytes (h : YM y pre x Ws l W) : Bytes y.base W x.A x.k.length x.k ∧ Bytes y.base W x.B x.v.length x.v := ⟨Bytes.of_own h.cm.came.1, Bytes.of_own h.cm.came.2⟩
theorem YM.cells (h : YM y pre x Ws l W) : W.cell? ⟨y.b13, 0, none⟩ = some (.int .i64 y.tw) ∧ W.cell? ⟨y.b5, 0, none⟩ = some (.int .i64 y.stop) ∧ W.cell? ⟨y.b6, 0, none⟩ = some (.slice y.A y.n y.c) ∧ W.cell? ⟨y.b7, 0, none⟩ = some (.slice y.B y.n2 y.c2) ∧ W.cell? ⟨y.b10, 0, none⟩ = some (.pointer (some ⟨y.mb, 0, none⟩)) ∧
    ∃ A9 c9, W.cell? ⟨y.b14, 0, none⟩ = some (.slice A9 (pre.length + 1) c9) := by
  obtain ⟨v, F, h1, h2, _⟩ := h.ex
  obtain ⟨A9, n9, c9, rfl, hn, _⟩ := h2.shape
  have hn2 : n9 = pre.length + 1 := by rw [hn.out]; simp [prs]
  subst hn2
  exact ⟨by simpa using h.t13.cell 0, by simpa using h.st.r5.cell 0, by simpa using h.st.r6.cell 0, by simpa using h.st.r7.cell 0, by simpa using h.st.r10.cell 0, A9, c9, by simpa using h1.cell 0⟩
theorem YM.fin (h : YM y pre x Ws l W) (hl : l = ml (pre.length + 1)) : YI y ml (pre ++ [x]) W := by
  obtain ⟨v, F, h1, h2, h3, h4⟩ := h.ex
  have hz := h.k0.2
  have hlo := h.lo
  refine ⟨h.st, h.t13, h.l13, h.l14, ⟨h.k0.1, by omega⟩, h.hd, h.kq, x.top, v, F, h1, fun z hz => ?_, fun e => absurd e (by simp), by omega, hz, h2, ?_, fun b hb => ⟨(h4 b hb).1, (h4 b hb).2.elim .inl (fun e => .inr ⟨by simp, e⟩)⟩⟩
  · rcases List.mem_append.1 hz with h9 | h9
    · exact h.tops z h9
    · simp at h9; subst h9; rfl
  · rw [List.length_append, List.length_singleton, ← hl]
    exact h3.weak (fun b hb => ⟨hb.1, hb.2 x (by simp)⟩)
/-- The first byte of the key that came may be written. -/
theorem YM.spoil (h : YM y pre x Ws l W) (hl : l = ml (pre.length + 1)) (hlim : y.lim ≤ y.W0.heap.size) (hp : 0 < x.k.length) : ∃ g i A9 c9, x.A = some ⟨g, 0, none⟩ ∧ W.cell? ⟨g, 0, none⟩ = some (.int .u8 i) ∧ W.frozen? ⟨g, 0, none⟩ = false ∧ W.cell? ⟨y.b14, 0, none⟩ = some (.slice A9 (pre.length + 1) c9) ∧ W.cell? ⟨y.b5, 0, none⟩ = some (.int .i64 y.stop) ∧ y.b14 ≠ g ∧ y.b5 ≠ g ∧
    ∀ u, YI y ml (pre ++ [x]) (W.setCell ⟨g, 0, none⟩ (.int .u8 u)) ∧ Keep (fun b => b < y.W0.heap.size ∨ x.sp b) Ws (W.setCell ⟨g, 0, none⟩ (.int .u8 u)) := by
  obtain ⟨o1, o2⟩ := h.cm.came
  obtain ⟨g, eA, hsp, hh⟩ := (ByteCells.of_own (S := fun b => (Value.slice x.A x.k.length x.c).ownBlock = some b) o1 (fun b e => e)) hp
  obtain ⟨⟨i, hc⟩, hf⟩ := hh 0 hp
  have hg1 := (World.ownsRow.lt o1 g hsp).1
  obtain ⟨A', c', B', d', e', p1, p2, p3, _⟩ := h.cm
  simp only [Came.cs, Came.pr, List.cons.injEq, Value.slice.injEq, and_true, true_and] at e'
  have hg2 : g < x.mid := p3 g (by obtain ⟨⟨e1, e2⟩, _⟩ := e'; rw [← e1, ← e2]; exact hsp)
  have hlo := h.lo
  have hz := h.k0.2
  have hl13 := h.l13
  have hl14 := h.l14
  obtain ⟨_, k5, _, _, _, A9, c9, k14⟩ := h.cells
  refine ⟨g, i, A9, c9, eA, hc, hf, k14, k5, by omega, by have := h.st.l5; omega, fun u => ?_⟩
  have hk : Keep (fun b => b = g) W (W.setCell ⟨g, 0, none⟩ (.int .u8 u)) := (Keep.refl (fun b => b = g) W).setCell (p := ⟨g, 0, none⟩) (.inl rfl) _
  obtain ⟨v, F, h1, h2, h3, h4⟩ := h.ex
  have h1' := h1.keep hk (fun e => by omega)
  have hst := h.st.ge hk (fun b e => by omega)
  have h2' := h2.keepGe hk (fun b hb e => by omega)
  refine ⟨⟨hst, h.t13.keep hk (fun e => by omega), h.l13, h.l14, ⟨h.k0.1, by have := hk.size; omega⟩, dd_keep h.hd hk (fun D hD _ (e : D = g) => by omega), h.kq.trans hk (fun b (e : b = g) => .inr (by omega)), x.top, v, F, h1', fun z hz => ?_, fun e => absurd e (by simp), by omega, Nat.le_trans hz hk.size, h2', ?_, fun b hb => ⟨(h4 b hb).1, (h4 b hb).2.elim .inl (fun e => .inr ⟨by simp, e⟩)⟩⟩,
    h.kp.trans hk (fun b e => .inl (.inr (.inl (e ▸ hsp))))⟩
  · rcases List.mem_append.1 hz with h9 | h9
    · exact h.tops z h9
    · simp at h9; subst h9; rfl
  · rw [List.length_append, List.length_singleton, ← hl]
    exact (h3.spoil hk (fun b e => by subst e; exact ⟨by omega, by omega⟩) (fun b e => by subst e; exact own_notMut o1 rfl hsp)).weak (fun b hb => ⟨hb.1, hb.2 x (by simp)⟩)
end

/-- Between two rounds, none of which was to be the last one. -/
def YN (y : YC) (ml : Nat → PairL) (pre : List Came) (W : World) : Prop := YI y ml pre W ∧ ¬ (1 ≤ y.stop ∧ y.stop ≤ ((pre.length : Nat) : Int))
/-- How a round is left. -/
def YX (y : YC) (ml : Nat → PairL) (cd : Code) (pre : List Came) (W : World) : Prop := cd = .exit 2 ∧ YI y ml pre W ∧ ((pre.length : Nat) : Int) = y.stop ∧ y.tw = 0 ∧ pre ≠ []
theorem size_keep {W W' : World} {S : Nat → Prop} (h : Keep S W W') : W.heap.size ≤ W'.heap.size := h.size

theorem uponIn_eq {F : Fence} {n : Nat} {P : Program} {o : Oper} {a : Act} {K : Act → World → Prop} {Q : Exit → Act → World → Prop} {r r' : Result Next} (h : r = r') (h2 : Oper.uponIn F n P o a K Q r') : Oper.uponIn F n P o a K Q r := h ▸ h2
theorem app_run {P : Program} {w w5 : World} {s : Sem Value} {v5 : Value} (h : s.run P w = .ok v5 w5) : (s.run P w).andThen (fun a w' => Result.ok (Next.value a) w') = .ok (.value v5) w5 := by rw [h]; rfl

end Go.Proofs.Ytdmckjojeddaaaa
