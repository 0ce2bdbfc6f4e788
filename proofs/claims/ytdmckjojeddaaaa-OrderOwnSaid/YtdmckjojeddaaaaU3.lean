/- Contracts of order's gather at api.Node and of Nodes. Conditions: each names its own. -/
import Derived.Test.YtdmckjojeddaaaaQA
import Derived.Test.YtdmckjojeddaaaaU1
import Derived.Test.YtdmckjojeddaaaaP3
namespace Go.Proofs.Ytdmckjojeddaaaa
open Go.RowKit Go.Proofs.YtdmckjojeddaaaaKit Go.Proofs.YtdmckjojeddaaaaPlain

/-! ### Rows of records of the call's own -/
def OwnR {α : Type} (R : World → α → List Value → Prop) (e size B : Nat) (l : List α) (v : Value) (w : World) : Prop := ∃ xs, w.ownsRow B e size v l.length xs ∧ Flat (R w) size l xs
section
variable {α : Type} {R : World → α → List Value → Prop} {e size B : Nat} {l l' : List α} {v v1 : Value} {w w1 : World} {S : Nat → Prop}
theorem OwnR.start : OwnR R e size B [] (.slice none 0 0) w := ⟨[], World.ownsRow_nil _ _ _ _, Flat.nil⟩
theorem OwnR.keep (h : OwnR R e size B l v w) (hk : Keep S w w1) (hR : ∀ x cs, R w x cs → R w1 x cs) (hn : ∀ k, v.ownBlock = some k → ¬ S k) : OwnR R e size B l v w1 := by
  obtain ⟨xs, h1, h2⟩ := h
  exact ⟨xs, own_keep h1 hk hn, h2.mono hR⟩
theorem OwnR.new_ (h : OwnR R e size B l v w) (hk : Keep No w w1) (hR : ∀ x cs, R w x cs → R w1 x cs) : OwnR R e size B l v w1 := h.keep hk hR (fun _ _ x => x)
theorem OwnR.push {xs news : List Value} {n : Nat} (h2 : Flat (R w) size l xs) (hn : Flat (R w) size l' news) (hl : l'.length = n) (ho : w1.ownsRow B e size v1 (l.length + n) (xs ++ news)) (hR : ∀ x cs, R w x cs → R w1 x cs) : OwnR R e size B (l ++ l') v1 w1 := by
  subst hl
  exact ⟨xs ++ news, by rw [List.length_append]; exact ho, (h2.append hn).mono hR⟩
theorem OwnR.shape (h : OwnR R e size B l v w) : ∃ A n c, v = .slice A n c ∧ Hid (n = l.length) ∧ n ≤ c := by
  obtain ⟨xs, h1, _⟩ := h
  obtain ⟨A, c, e, hc⟩ := own_slice h1
  exact ⟨A, _, c, e, Lib.hid rfl, hc⟩
theorem OwnR.recs {base : Nat} {A : Option Addr} {n c : Nat} (h : OwnR R e size B l (.slice A n c) w) (he : mutTy e = false) : Recs base e R size w A n l := by
  obtain ⟨xs, h1, h2⟩ := h
  obtain ⟨A', c', e, hc⟩ := own_slice h1
  injection e with e1 e2 e3
  subst e1 e2 e3
  exact ⟨xs, Reads.of_own h1 he, h2⟩
theorem OwnR.weak {B' : Nat} (h : OwnR R e size B l v w) (hb : B' ≤ B) : OwnR R e size B' l v w := by
  obtain ⟨xs, h1, h2⟩ := h
  exact ⟨xs, ownsRow_weak h1 hb, h2⟩
theorem OwnR.ge (h : OwnR R e size B l v w) {k : Nat} (hk : v.ownBlock = some k) : B ≤ k := by
  obtain ⟨xs, h1, h2⟩ := h
  exact (World.ownsRow.lt h1 k hk).1
theorem OwnR.lt_ (h : OwnR R e size B l v w) {k : Nat} (hk : v.ownBlock = some k) : k < w.heap.size := by
  obtain ⟨xs, h1, h2⟩ := h
  exact (World.ownsRow.lt h1 k hk).2
theorem OwnR.off {base e' : Nat} (h : OwnR R e size B l v w) (hb : base ≤ B) (hne : e ≠ e') : Off base e' w (fun b => v.ownBlock = some b) := by
  obtain ⟨xs, h1, h2⟩ := h
  exact Off.own h1 hb hne
theorem flat_one {size : Nat} {α : Type} {R : World → α → List Value → Prop} {w : World} {l : List α} {xs : List Value} (h : Flat (R w) size l xs) (hR : ∀ x cs, R w x cs → ∀ u ∈ cs, u.oneCell' = true) : ∀ u ∈ xs, u.oneCell' = true := by
  induction l generalizing xs with
  | nil => rw [show xs = [] from h]; intro u hu; cases hu
  | cons p l ih =>
    obtain ⟨cs, ys, rfl, _, hx, ht⟩ := h
    intro u hu
    rcases List.mem_append.1 hu with hu | hu
    · exact hR _ _ hx u hu
    · exact ih ht u hu
/-- One record in a block of its own. -/
theorem rec_new {base : Nat} {w : World} {e : TypeId} {cs : List Value} (he : mutTy e = false) : Reads base (w.alloc (.cells cs.toArray e)) e cs.length (some ⟨w.heap.size, 0, none⟩) 1 cs := by
  have hB := Blk.new w e cs.toArray
  refine ⟨by simp, fun _ => ⟨_, rfl, hB.imm he, fun j u hu => ?_⟩⟩
  have := hB.cell j
  rw [Addr.add_lit, Nat.zero_add, this]
  simpa using hu
end

/-! ### append of one record onto a row of the call's own -/
section
variable {P : Program} (w : World)
theorem append_rec {α : Type} {R : World → α → List Value → Prop} {base B : Nat} {e : TypeId} {size : Nat} {l : List α} {v : Value} {x : α} {cs : List Value} {xs : List Value} {v1 : Value} {w1 : World}
    (hRk : ∀ (S : Nat → Prop) (w w' : World) (x : α) (cs : List Value), R w x cs → Keep S w w' → Off base 5 w S → R w' x cs) (hbB : base ≤ B) (hne : e ≠ 5) (hcs : cs.length = size)
    (ho : w.ownsRow B e size v l.length xs) (hf : Flat (R w) size l xs) (hrec : R w x cs) (hown1 : w1.ownsRow B e size v1 (l.length + 1) (xs ++ cs)) (hg : (w.alloc (.cells cs.toArray e)).grownBy w1 v.ownBlock) :
    OwnR R e size B (l ++ [x]) v1 w1 ∧ Keep (fun b => v.ownBlock = some b) w w1 := by
  have hk : Keep (fun b => v.ownBlock = some b) w w1 := ((Keep.refl (fun b => v.ownBlock = some b) w).alloc _).grown hg (fun k e => .inl e)
  have hoff : Off base 5 w (fun b => v.ownBlock = some b) := Off.own ho hbB hne
  exact ⟨OwnR.push (n := 1) hf (Flat.one hrec hcs) rfl hown1 (fun x cs hx => hRk _ _ _ _ _ hx hk hoff), hk⟩

theorem step_append_rec {ops : Array Oper} {o : Oper} {a : Act} {K : Act → World → Prop} {Q : Exit → Act → World → Prop} {E : Prop} (hgd : o.guard = none) (s x : Operand) (t : TypeId)
    (ho : o.op = .call { callee := .builtin .append, args := #[s, x], argTypes := #[t, t] })
    (B : Nat) (e : TypeId) (i : TypeInfo) (z : Value) (size bytes : Nat) (ht : P.underlying t = some (.slice e)) (hi : P.info? e = some i) (hz : i.zero = some z)
    (hsize : i.size = size) (hby : i.bytes = bytes) (hzs : z.cells.size = size) (hsz : 0 < size)
    {α : Type} {R : World → α → List Value → Prop} {base : Nat} (hRk : ∀ (S : Nat → Prop) (w w' : World) (x : α) (cs : List Value), R w x cs → Keep S w w' → Off base 5 w S → R w' x cs) (hbB : base ≤ B) (hne : e ≠ 5) (hmut : mutTy e = false)
    (l : List α) (v : Value) (hs : a.eval s = v) (hown : OwnR R e size B l v w) (r : α) (cs : List Value) (c : Nat) (hcs : cs.length = size) (hx : a.eval x = .slice (some ⟨w.heap.size, 0, none⟩) 1 c) (hrec : R w r cs) (h1 : ∀ u ∈ cs, u.oneCell' = true)
    (h63 : l.length + 1 ≤ maxLen) (hbytes : (l.length + 1) * bytes ≤ 140737488355328) (hbase : B ≤ w.heap.size)
    (h : ∀ v' w', OwnR R e size B (l ++ [r]) v' w' → Keep (fun b => v.ownBlock = some b) w w' → (∀ k, v'.ownBlock = some k → v.ownBlock = some k ∨ w.heap.size ≤ k) → K (a.put o.dst v') w') :
    if Region.wanted o (yielded ops a.tmps) = true then Oper.wp P o a (w.alloc (.cells cs.toArray e)) K Q else E := by
  obtain ⟨xs, ho1, hf1⟩ := hown
  subst hcs
  refine step_append_any (w.alloc (.cells cs.toArray e)) hgd s x t ho B e i z cs.length bytes ht hi hz hsize hby hzs hsz v l.length xs hs (ho1.alloc _) base _ 1 c cs hx (rec_new hmut) h1 h63 hbytes (by simp; omega) ?_
  intro v1 w1 hown1 hg1 hat
  obtain ⟨h2, h3⟩ := append_rec w hRk hbB hne rfl ho1 hf1 hrec hown1 hg1
  exact h v1 w1 h2 h3 (fun k e => hat.elim (fun e1 => .inl (e1 ▸ e)) (fun e1 => .inr (by rw [e1] at e; injection e with e; simp at e; omega)))
theorem wpList_append_rec {ops : Array Oper} {rest : List Oper} {o : Oper} {a : Act} {Q : Exit → Act → World → Prop} (hgd : o.guard = none) (s x : Operand) (t : TypeId)
    (ho : o.op = .call { callee := .builtin .append, args := #[s, x], argTypes := #[t, t] })
    (B : Nat) (e : TypeId) (i : TypeInfo) (z : Value) (size bytes : Nat) (ht : P.underlying t = some (.slice e)) (hi : P.info? e = some i) (hz : i.zero = some z)
    (hsize : i.size = size) (hby : i.bytes = bytes) (hzs : z.cells.size = size) (hsz : 0 < size)
    {α : Type} {R : World → α → List Value → Prop} {base : Nat} (hRk : ∀ (S : Nat → Prop) (w w' : World) (x : α) (cs : List Value), R w x cs → Keep S w w' → Off base 5 w S → R w' x cs) (hbB : base ≤ B) (hne : e ≠ 5) (hmut : mutTy e = false)
    (l : List α) (v : Value) (hs : a.eval s = v) (hown : OwnR R e size B l v w) (r : α) (cs : List Value) (c : Nat) (hcs : cs.length = size) (hx : a.eval x = .slice (some ⟨w.heap.size, 0, none⟩) 1 c) (hrec : R w r cs) (h1 : ∀ u ∈ cs, u.oneCell' = true)
    (h63 : l.length + 1 ≤ maxLen) (hbytes : (l.length + 1) * bytes ≤ 140737488355328) (hbase : B ≤ w.heap.size)
    (h : ∀ v' w', OwnR R e size B (l ++ [r]) v' w' → Keep (fun b => v.ownBlock = some b) w w' → (∀ k, v'.ownBlock = some k → v.ownBlock = some k ∨ w.heap.size ≤ k) → wpList P ops Q rest (a.put o.dst v') w') : wpList P ops Q (o :: rest) a (w.alloc (.cells cs.toArray e)) := by
  obtain ⟨xs, ho1, hf1⟩ := hown
  subst hcs
  refine wpList_append_any (w.alloc (.cells cs.toArray e)) hgd s x t ho B e i z cs.length bytes ht hi hz hsize hby hzs hsz v l.length xs hs (ho1.alloc _) base _ 1 c cs hx (rec_new hmut) h1 h63 hbytes (by simp; omega) ?_
  intro v1 w1 hown1 hg1 hat
  obtain ⟨h2, h3⟩ := append_rec w hRk hbB hne rfl ho1 hf1 hrec hown1 hg1
  exact h v1 w1 h2 h3 (fun k e => hat.elim (fun e1 => .inl (e1 ▸ e)) (fun e1 => .inr (by rw [e1] at e; injection e with e; simp at e; omega)))
end

/-! ### Bytes whose block lies from base on -/
def BytesAt (base : Nat) (w : World) (A : Option Addr) (n : Nat) (bs : List UInt8) : Prop := Bytes base w A n bs ∧ (∀ ad, A = some ad → base ≤ ad.block) ∧ BW base w A n
section
variable {S : Nat → Prop} {base : Nat} {w w' : World} {n : Nat} {A : Option Addr} {bs : List UInt8}
theorem BW.off (h : BW base w A n) (hk : Keep S w w') (hs : Off base 5 w S) : BW base w' A n := fun hn => by
  obtain ⟨g, cs, e, hg, hb, hc⟩ := h hn
  exact ⟨g, cs, e, hg, hb.keep hk (fun hS => by
    obtain ⟨_, cs', t', f', hh, ht⟩ := hs g hS
    unfold Blk at hb
    rw [hb] at hh
    injection hh with hh
    injection hh with _ hh
    exact ht hh.symm), hc⟩
theorem BytesAt.off (h : BytesAt base w A n bs) (hk : Keep S w w') (hs : Off base 5 w S) : BytesAt base w' A n bs := ⟨h.1.off hk hs, h.2.1, h.2.2.off hk hs⟩
theorem BytesAt.keep (h : BytesAt base w A n bs) (hk : Keep S w w') (hs : ∀ b, S b → Mut base w b) : BytesAt base w' A n bs := ⟨h.1.keep hk hs, h.2.1, h.2.2.off hk (Off.of_mut rfl hs)⟩
theorem BytesAt.new_ (h : BytesAt base w A n bs) (hk : Keep No w w') : BytesAt base w' A n bs := ⟨h.1.new_ hk, h.2.1, h.2.2.new_ hk⟩
theorem BytesAt.alloc (h : BytesAt base w A n bs) (o : Obj) : BytesAt base (w.alloc o) A n bs := h.new_ ((Keep.refl No w).alloc o)
theorem BytesAt.of_own {b0 c : Nat} (h : w.ownsRow b0 5 1 (.slice A n c) n (byteVs bs)) (hb : base ≤ b0) : BytesAt base w A n bs := ⟨Bytes.of_own h, fun ad e => by
  subst e
  rcases h.2 with ⟨hv, _⟩ | ⟨g, cap, cur, hv, hge, _⟩
  · injection hv with hv
    cases hv
  · injection hv with hv
    injection hv with hv
    subst hv
    exact Nat.le_trans hb hge, BW.of_own h hb⟩
theorem BytesAt.lower {base' : Nat} (h : BytesAt base w A n bs) (hb : base' ≤ base) : BytesAt base' w A n bs := ⟨⟨h.1.1, fun hn => by
  obtain ⟨ad, e, hi, hc⟩ := h.1.2 hn
  have hl := h.2.1 ad e
  exact ⟨ad, e, ⟨hi.1, hi.2.1, hi.2.2.elim (fun h => absurd hl (Nat.not_le.2 h)) .inr⟩, hc⟩⟩, fun ad e => Nat.le_trans hb (h.2.1 ad e), h.2.2.low hb⟩
end

/-! ### Nodes -/
def NodeR (base : Nat) (w : World) (x : NodeV) (cs : List Value) : Prop :=
  ∃ A c B d, cs = [.slice A x.key.length c, .slice B x.value.length d, .int .u64 x.digest, .int .i64 (x.size : Nat), .int .i64 x.left, .int .i64 x.right] ∧
    BytesAt base w A x.key.length x.key ∧ BytesAt base w B x.value.length x.value ∧ x.key.length ≤ c ∧ x.value.length ≤ d
theorem NodeR.off {base : Nat} {w w1 : World} {x : NodeV} {cs : List Value} {S : Nat → Prop} (h : NodeR base w x cs) (hk : Keep S w w1) (hs : Off base 5 w S) : NodeR base w1 x cs := by
  obtain ⟨A, c, B, d, e, h1, h2, h3⟩ := h
  exact ⟨A, c, B, d, e, h1.off hk hs, h2.off hk hs, h3⟩
theorem NodeR.offs {base : Nat} (S : Nat → Prop) (w w' : World) (x : NodeV) (cs : List Value) (h : NodeR base w x cs) (hk : Keep S w w') (hs : Off base 5 w S) : NodeR base w' x cs := h.off hk hs
theorem NodeR.one {base : Nat} {w : World} {x : NodeV} {cs : List Value} (h : NodeR base w x cs) : ∀ u ∈ cs, u.oneCell' = true := by
  obtain ⟨A, c, B, d, rfl, _⟩ := h
  intro u hu
  simp at hu
  rcases hu with rfl | rfl | rfl | rfl | rfl | rfl <;> rfl
theorem NodeR.keep {base : Nat} {w w1 : World} {x : NodeV} {cs : List Value} {S : Nat → Prop} (h : NodeR base w x cs) (hk : Keep S w w1) (hs : ∀ b, S b → Mut base w b) : NodeR base w1 x cs := by
  obtain ⟨A, c, B, d, e, h1, h2, h3⟩ := h
  exact ⟨A, c, B, d, e, h1.keep hk hs, h2.keep hk hs, h3⟩
theorem NodeR.lower {base base' : Nat} {w : World} {x : NodeV} {cs : List Value} (h : NodeR base w x cs) (hb : base' ≤ base) : NodeR base' w x cs := by
  obtain ⟨A, c, B, d, e, h1, h2, h3⟩ := h
  exact ⟨A, c, B, d, e, h1.lower hb, h2.lower hb, h3⟩
abbrev NodesAt (base : Nat) := Recs base 44 (NodeR base) 6
theorem NodesAt.keep {base : Nat} {w w1 : World} {A : Option Addr} {n : Nat} {L : List NodeV} {S : Nat → Prop} (h : NodesAt base w A n L) (hk : Keep S w w1) (hs : ∀ b, S b → Mut base w b) : NodesAt base w1 A n L := Recs.keep h hk hs (fun _ _ hx => hx.keep hk hs)
theorem NodesAt.new_ {base : Nat} {w w1 : World} {A : Option Addr} {n : Nat} {L : List NodeV} (h : NodesAt base w A n L) (hk : Keep No w w1) : NodesAt base w1 A n L := NodesAt.keep h hk (fun _ x => x.elim)
theorem NodesAt.at_ {base : Nat} {w : World} {A : Option Addr} {n : Nat} {L : List NodeV} (h : NodesAt base w A n L) {k : Nat} {x : NodeV} (hk : L[k]? = some x) : ∃ ad A1 c1 A2 c2, A = some ad ∧ Imm base 44 w ad.block ∧
    w.cell? (ad.add (k * 6)) = some (.slice A1 x.key.length c1) ∧ w.cell? ⟨(ad.add (k * 6)).block, (ad.add (k * 6)).off + 1, none⟩ = some (.slice A2 x.value.length c2) ∧
    w.cell? ⟨(ad.add (k * 6)).block, (ad.add (k * 6)).off + 2, none⟩ = some (.int .u64 x.digest) ∧ w.cell? ⟨(ad.add (k * 6)).block, (ad.add (k * 6)).off + 3, none⟩ = some (.int .i64 (x.size : Nat)) ∧
    w.cell? ⟨(ad.add (k * 6)).block, (ad.add (k * 6)).off + 4, none⟩ = some (.int .i64 x.left) ∧ w.cell? ⟨(ad.add (k * 6)).block, (ad.add (k * 6)).off + 5, none⟩ = some (.int .i64 x.right) ∧
    Bytes base w A1 x.key.length x.key ∧ Bytes base w A2 x.value.length x.value := by
  have hlt := (List.getElem?_eq_some_iff.1 hk).1
  have hx := (List.getElem?_eq_some_iff.1 hk).2
  obtain ⟨ad, cs, e, hb, ⟨A1, c1, A2, c2, rfl, h1, h2, _, _⟩, _, hc⟩ := Recs.at_ (by omega) h hlt
  rw [hx] at h1 h2 hc
  exact ⟨ad, A1, c1, A2, c2, e, hb, hc 0 _ rfl, by rw [add_field _ _ 1 (by omega)]; exact hc 1 _ rfl, by rw [add_field _ _ 2 (by omega)]; exact hc 2 _ rfl, by rw [add_field _ _ 3 (by omega)]; exact hc 3 _ rfl,
    by rw [add_field _ _ 4 (by omega)]; exact hc 4 _ rfl, by rw [add_field _ _ 5 (by omega)]; exact hc 5 _ rfl, h1.1, h2.1⟩

abbrev OwnN (base B : Nat) := OwnR (NodeR base) 44 6 B
theorem info_node : (Try.prog.info? 44).map (fun i => (i.zero, i.size, i.bytes)) = some (some (.agg #[.slice none 0 0, .slice none 0 0, .int .u64 0, .int .i64 0, .int .i64 0, .int .i64 0]), 6, 80) := by kernel_rfl

theorem childAt_at {t : AT} {a : Int} {n : Nat} (h : a = (n : Int)) : childAt t.ptr a = t.shape.at_ n := by
  cases t with
  | nil => rfl
  | node b k v l r => exact h

def GatherRet (base ab : Nat) (W0 : World) (l : List NodeV) (i : Nat) (e : Ending) (w' : World) : Prop :=
  ∃ A c a, e = .returned (.slice A l.length c) ∧ l.length ≤ c ∧ OwnN base W0.heap.size l (.slice A l.length c) w' ∧ Keep (Only ab) W0 w' ∧ Blk w' ab 3 #[.int .i64 a] ∧ Hid (a + 1 = (i : Int))
theorem only_off {base ab : Nat} {w : World} {T : TypeId} {cs : Array Value} (hc : Blk w ab T cs) (hb : base ≤ ab) (hT : T ≠ 5) : Off base 5 w (Only ab) := fun x e => by
  rw [show x = ab from e]; exact ⟨hb, _, _, _, hc, hT⟩

theorem gather_take {base ab : Nat} {W0 w w1 : World} {k v : List UInt8} {A B : Option Addr} {c d : Nat} {C : Array Value} {L : List NodeV} {V : Value} (hba : base ≤ ab) (hab : ab < W0.heap.size) (hk : Keep (Only ab) W0 w) (hc : Blk w ab 3 C) (ho : OwnN base W0.heap.size L V w)
    (tw : Twin1 (Only ab) w.drew k v A B c d w1) : OwnN base W0.heap.size L V w1 ∧ Keep (Only ab) W0 w1 ∧ BytesAt base w1 A k.length k ∧ BytesAt base w1 B v.length v := by
  have hk1 : Keep (Only ab) w w1 := tw.2.2.2.2.2.of_drew
  have hoff := only_off hc hba (by decide)
  exact ⟨ho.keep hk1 (fun x cs hx => hx.off hk1 hoff) (fun x e hx => by have := ho.ge e; rw [show x = ab from hx] at this; omega), hk.trans hk1 (fun _ e => .inl e), BytesAt.of_own tw.1 (by have := hk.size; show base ≤ w.heap.size; omega), BytesAt.of_own tw.2.1 (by have := hk.size; show base ≤ w.heap.size; omega)⟩
set_option maxHeartbeats 2000000 in
set_option maxRecDepth 100000 in
theorem gatherN_any {base2 base ab : Nat} {W0 : World} {seed : Int} {C0 : Array Value} (hba2 : base2 ≤ base) (hba : base ≤ ab) (h0 : Blk W0 ab 3 C0) (t : AT) (hrep : Rep base2 W0 seed t) : ∀ (w : World) (a : Int) (i : Nat) (l : List NodeV) (v : Value),
    Keep (Only ab) W0 w → Blk w ab 3 #[.int .i64 a] → Hid (a + 1 = (i : Int)) → OwnN base W0.heap.size l v w → l.length + t.size ≤ 1000000 → i + t.size ≤ 1000000 →
    Calls Try.prog 65 #[.pointer t.ptr, v, .func (.func 66) #[] #[.pointer (some ⟨ab, 0, none⟩)]] w (GatherRet base ab W0 (l ++ t.shape.nodes seed i) (i + t.size)) := by
  induction t with
  | nil =>
    intro w a i l v hk hc hi ho _ _
    have H := Lib.hid (show _ ∧ _ ∧ _ from ⟨hk, hc, ho⟩)
    clear hk hc ho
    rw [ptr_nil]
    go_enter Try.func65, Try.ntmps65
    go_wp2
    go_ret
    obtain ⟨hk, hc, ho⟩ := H.out
    obtain ⟨A, n, c, rfl, hn, hcc⟩ := ho.shape
    obtain rfl := hn.out
    have e0 : l ++ AT.nil.shape.nodes seed i = l := by simp [AT.shape, PT.nodes]
    rw [e0]
    exact ⟨A, c, a, rfl, hcc, ho, hk, hc, hi⟩
  | node b k v l r ihl ihr =>
    intro w a i L V hk hc hi ho hl1 hl2
    obtain ⟨i0, hi0, hz0, hz1, hz2⟩ := info_parts info_node
    have hi' := hi.out
    have hszs : l.size ≤ 1000000 ∧ l.size + r.size + 1 + i ≤ 1000000 ∧ L.length + 1 + l.size + r.size ≤ 1000000 := by simp only [AT.size] at hl1 hl2; omega
    have hreps : ∀ w', Keep (Only ab) W0 w' → Rep base2 w' seed (.node b k v l r) := fun w' hk' => hrep.int_off h0 (Nat.le_trans hba2 hba) hk'
    have hrw := hreps w hk
    have hab0 := h0.lt
    have hE : (AT.node b k v l r).shape.nodes seed i = [⟨k, v, (AT.node b k v l r).sum seed, (AT.node b k v l r).size, childAt l.ptr (a + 1 + 1), childAt r.ptr (a + 1 + 1 + (l.size : Nat))⟩] ++ (l.shape.nodes seed (i + 1) ++ r.shape.nodes seed (i + 1 + l.size)) := by
      rw [childAt_at (t := l) (n := i + 1) (by omega), childAt_at (t := r) (n := i + 1 + l.size) (by omega)]
      simp only [AT.shape, PT.nodes, shape_size, shape_sum, AT.sum, AT.size, List.cons_append, List.nil_append]
    have hT1 := Lib.hid (nodes1_any (at_ := a) (hrw.new_ ((Keep.refl No w).drew)) hc.drew (Nat.le_trans hba2 hba) (by omega) (by omega) hszs.1)
    obtain ⟨L3, hL3⟩ : ∃ L3, L3 = (L ++ [(⟨k, v, (AT.node b k v l r).sum seed, (AT.node b k v l r).size, childAt l.ptr (a + 1 + 1), childAt r.ptr (a + 1 + 1 + (l.size : Nat))⟩ : NodeV)]) ++ l.shape.nodes seed (i + 1) := ⟨_, rfl⟩
    obtain ⟨L4, hL4⟩ : ∃ L4, L4 = L ++ (AT.node b k v l r).shape.nodes seed i := ⟨_, rfl⟩
    have hl3 : L3.length = L.length + 1 + l.size := by rw [hL3, List.length_append, List.length_append, nodes_length, shape_size]; rfl
    have hl43 : L4 = L3 ++ r.shape.nodes seed (i + 1 + l.size) := by rw [hL4, hE, hL3]; simp
    have hsz4 : i + (AT.node b k v l r).size = i + 1 + l.size + r.size := by simp only [AT.size]; omega
    have HL := Lib.hid (show ∀ w2 v2, Keep (Only ab) W0 w2 → Blk w2 ab 3 #[.int .i64 (a + 1)] → OwnN base W0.heap.size (L ++ [(⟨k, v, (AT.node b k v l r).sum seed, (AT.node b k v l r).size, childAt l.ptr (a + 1 + 1), childAt r.ptr (a + 1 + 1 + (l.size : Nat))⟩ : NodeV)]) v2 w2 →
      Calls Try.prog 65 #[.pointer l.ptr, v2, .func (.func 66) #[] #[.pointer (some ⟨ab, 0, none⟩)]] w2 (GatherRet base ab W0 L3 (i + 1 + l.size)) from fun w2 v2 hk hb ho => hL3 ▸ ihl hrep.2.1 w2 (a + 1) (i + 1) _ v2 hk hb (Lib.hid (by omega)) ho (by simp; omega) (by omega))
    have HR := Lib.hid (show ∀ w3 v3 a3, Keep (Only ab) W0 w3 → Blk w3 ab 3 #[.int .i64 a3] → Hid (a3 + 1 = ((i + 1 + l.size : Nat) : Int)) → OwnN base W0.heap.size L3 v3 w3 →
      Calls Try.prog 65 #[.pointer r.ptr, v3, .func (.func 66) #[] #[.pointer (some ⟨ab, 0, none⟩)]] w3 (GatherRet base ab W0 L4 (i + (AT.node b k v l r).size)) from fun w3 v3 a3 hk hb hi ho => by
        rw [hl43, hsz4]; exact ihr hrep.2.2 w3 a3 (i + 1 + l.size) _ v3 hk hb hi ho (by omega) (by omega))
    rw [← hL4]
    clear hL3 hL4 hl3 hl43 hsz4
    have HO := Lib.hid ho
    have HRP := Lib.hid hreps
    have HC := Lib.hid hc
    have HK := Lib.hid hk
    obtain ⟨_, _, _, _, _, _, _, _, _, c3, c4, _⟩ := hrw.root.cells
    have HIA := Lib.hid hi'
    have hcl : ∀ w', Keep (Only ab) W0 w' → w'.cell? ⟨b, 3, none⟩ = some (.pointer l.ptr) ∧ w'.cell? ⟨b, 4, none⟩ = some (.pointer r.ptr) := fun w' hk' => by
      obtain ⟨_, _, _, _, _, _, _, _, _, c3, c4, _⟩ := (hreps w' hk').root.cells
      exact ⟨c3, c4⟩
    have HCL := Lib.hid hcl
    clear hrw hE ihl ihr ho hreps hc hk hi' hl1 hl2 hcl
    have tok1 : True := trivial
    have hbB : base ≤ W0.heap.size := by omega
    rw [ptr_node]
    go_enter Try.func65, Try.ntmps65
    go_wp2_with fail
    go_region_held3 (fun w' => w'.cell? ⟨b, 3, none⟩ = some (.pointer l.ptr) ∧ w'.cell? ⟨b, 4, none⟩ = some (.pointer r.ptr) ∧ Keep (Only ab) W0 w')
      (first
        | exact ⟨c3, c4, HK.out.drew⟩
        | (go_split_ands; exact ⟨(HCL.out _ hkd).1, (HCL.out _ hkd).2, hkd⟩)
        | (go_split_ands; exact ⟨(HCL.out _ (Keep.alloc hkd _)).1, (HCL.out _ (Keep.alloc hkd _)).2, Keep.alloc hkd _⟩))
      (first
        | (go_at_call 66; refine hT1.out.mono ?_; rintro e w1 ⟨A1, c1, B1, d1, rfl, tw1, hb1⟩; obtain ⟨O1, hkd, bA, bB⟩ := gather_take hba hab0 HK.out HC.out HO.out tw1; have NR : NodeR base w1 (⟨k, v, (AT.node b k v l r).sum seed, (AT.node b k v l r).size, childAt l.ptr (a + 1 + 1), childAt r.ptr (a + 1 + 1 + (l.size : Nat))⟩ : NodeV) [.slice A1 k.length c1, .slice B1 v.length d1, .int .u64 ((AT.node b k v l r).sum seed), .int .i64 (((AT.node b k v l r).size : Nat) : Int), .int .i64 (childAt l.ptr (a + 1 + 1)), .int .i64 (childAt r.ptr (a + 1 + 1 + (l.size : Nat)))] := ⟨A1, c1, B1, d1, rfl, bA, bB, tw1.2.2.2.1, tw1.2.2.2.2.1⟩; have G1 := Lib.hid (show _ ∧ _ ∧ _ from ⟨O1, NR, hb1⟩); clear NR; clear O1 bA bB tw1 hb1)
        | (refine step_append_rec _ (by rfl) _ _ _ (by rfl) W0.heap.size 44 i0 _ 6 80 Try.underlying41 hi0 hz0 hz1 hz2 rfl (by omega) (NodeR.offs (base := base)) hbB (by decide) rfl L V (by rfl) G1.out.1 _ _ _ rfl (by rfl) G1.out.2.1 G1.out.2.1.one (by simp only [maxLen]; omega) (by omega) (Keep.size (by assumption)) ?_; intro v2 w2 O2 hk2 _; have hkx := hkd; clear hkd; have hkd : Keep (Only ab) W0 w2 := hkx.trans hk2 (fun _ e => .inr (G1.out.1.ge e)); have G2 := Lib.hid (show _ ∧ _ from ⟨O2, G1.out.2.2.keep hk2 (fun e => by have := G1.out.1.ge e; omega)⟩); clear O2 hk2 hkx)
        | (go_at_call 65; have _t := tok1; refine (HL.out _ _ hkd G2.out.2 G2.out.1).mono ?_; clear hkd tok1; rintro e w3 ⟨A3, c3, a3, rfl, hc3, O3, hkd, hb3, hi3⟩; have G3 := Lib.hid (show _ ∧ _ from ⟨O3, hb3⟩); clear O3 hb3 _t)
        | (go_at_call 65; refine (HR.out _ _ _ hkd G3.out.2 hi3 G3.out.1).mono ?_; clear hkd; rintro e w4 hG; obtain ⟨A4, c4, a4, rfl, hc4, O4, hkd, hb4, hi4⟩ := id hG; have G4 := Lib.hid hG; clear hG O4 hb4))
    go_wp2
    go_ret
    exact G4.out
end Go.Proofs.Ytdmckjojeddaaaa

namespace Go.Proofs.Ytdmckjojeddaaaa
open Go.RowKit Go.Proofs.YtdmckjojeddaaaaKit Go.Proofs.YtdmckjojeddaaaaPlain

/-- A list of records of the call's own comes back. -/
def RecsRet {α : Type} (R : World → α → List Value → Prop) (e size : Nat) (w : World) (l : List α) (en : Ending) (w' : World) : Prop :=
  ∃ A c, en = .returned (.slice A l.length c) ∧ l.length ≤ c ∧ OwnR R e size w.heap.size l (.slice A l.length c) w' ∧ Keep No w w'

set_option maxHeartbeats 1000000 in
set_option maxRecDepth 100000 in
theorem nodes_own {base : Nat} {w : World} {seed : Int} {mb : Nat} {l : PairL} {F : List Nat} (h : MSt base w mb seed l F) (hb : base ≤ w.heap.size) (hsz : l.length ≤ 900000) :
    Calls Try.prog 22 #[.pointer (some ⟨mb, 0, none⟩)] w (RecsRet (NodeR w.heap.size) 44 6 w (nodesL seed l)) := by
  obtain ⟨t, hO, hwf, rfl, rfl⟩ := h
  rw [toList_length] at hsz
  have HR := Lib.hid (real_any hO.has)
  obtain ⟨_, _, m2⟩ := hO.has.cells
  have hml := hO.has.2.lt
  have k1 : Keep No w (w.alloc (.cells #[.int .i64 (-1)] 3)) := (Keep.refl _ _).alloc _
  have B1 : Blk (w.alloc (.cells #[.int .i64 (-1)] 3)) w.heap.size 3 #[.int .i64 (-1)] := Blk.new _ _ _
  have hG := gatherN_any (seed := seed) hb (Nat.le_refl _) B1 t (hO.rep.new_ k1) _ (-1) 0 [] (.slice none 0 0) (Keep.refl _ _) B1 (Lib.hid rfl) OwnR.start (by simp; omega) (by omega)
  have hE : [] ++ t.shape.nodes seed 0 = nodesL seed t.toList := by rw [List.nil_append, nodesL, shape_build hwf]
  rw [hE] at hG
  have HG := Lib.hid hG
  generalize nodesL seed t.toList = L at *
  clear hG hO hE hwf
  go_enter Try.func22, Try.ntmps22
  go_wp2_with (first
    | (go_at_call 64; refine HR.out.mono ?_; rintro e w' ⟨rfl, rfl⟩)
    | (go_at_call 65; refine HG.out.mono ?_; rintro e w2 ⟨A, c, a, rfl, hc, ho, hk, hb2, hi⟩))
  go_ret
  refine ⟨A, c, rfl, hc, ho.weak (by simp), ?_⟩
  exact k1.trans hk (fun x e => .inr (by rw [show x = w.heap.size from e]; exact Nat.le_refl _))

theorem nodes_any {base : Nat} {w : World} {seed : Int} {mb : Nat} {l : PairL} {F : List Nat} (h : MSt base w mb seed l F) (hb : base ≤ w.heap.size) (hsz : l.length ≤ 900000) :
    Calls Try.prog 22 #[.pointer (some ⟨mb, 0, none⟩)] w (RecsRet (NodeR base) 44 6 w (nodesL seed l)) :=
  (nodes_own h hb hsz).mono fun _ _ ⟨A, c, e, hc, ⟨xs, h1, h2⟩, hk⟩ => ⟨A, c, e, hc, ⟨xs, h1, h2.mono (fun _ _ hx => hx.lower hb)⟩, hk⟩

section
variable {base : Nat} {w : World} {seed : Int} {mb : Nat} {l : PairL} {F : List Nat}
set_option maxHeartbeats 400000 in
theorem len_any (h : MSt base w mb seed l F) : Calls Try.prog 27 #[.pointer (some ⟨mb, 0, none⟩)] w fun e w' => e = .returned (.int .i64 (l.length : Nat)) ∧ w = w' := by
  obtain ⟨t, hO, _, rfl, rfl⟩ := h
  rw [toList_length]
  have HR := Lib.hid (real_any hO.has)
  have HC := Lib.hid (count_any hO.rep)
  obtain ⟨_, _, m2⟩ := hO.has.cells
  clear hO
  go_enter Try.func27, Try.ntmps27
  go_wp2_with (first
    | (go_at_call 64; refine HR.out.mono ?_; rintro e w' ⟨rfl, rfl⟩)
    | (go_at_call 68; refine HC.out.mono ?_; rintro e w' ⟨rfl, rfl⟩))
  go_ret
  exact ⟨rfl, rfl⟩
set_option maxHeartbeats 400000 in
theorem mdigest_any (h : MSt base w mb seed l F) : Calls Try.prog 26 #[.pointer (some ⟨mb, 0, none⟩)] w fun e w' => e = .returned (.int .u64 (digest seed l)) ∧ w = w' := by
  obtain ⟨t, hO, hwf, rfl, rfl⟩ := h
  rw [← digest_eq hwf]
  have HR := Lib.hid (real_any hO.has)
  have HC := Lib.hid (sum_any hO.rep)
  obtain ⟨_, _, m2⟩ := hO.has.cells
  clear hO hwf
  go_enter Try.func26, Try.ntmps26
  go_wp2_with (first
    | (go_at_call 64; refine HR.out.mono ?_; rintro e w' ⟨rfl, rfl⟩)
    | (go_at_call 70; refine HC.out.mono ?_; rintro e w' ⟨rfl, rfl⟩))
  go_ret
  exact ⟨rfl, rfl⟩
end
end Go.Proofs.Ytdmckjojeddaaaa
