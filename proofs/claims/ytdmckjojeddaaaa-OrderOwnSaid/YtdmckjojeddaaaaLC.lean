/- Contract of order's reader.node: any bytes are read just if they are those of a tree. Conditions: each names its own. -/
import Derived.Test.YtdmckjojeddaaaaLA
import Derived.Test.YtdmckjojeddaaaaLB
import Derived.Deep.RegionHeld3
import Derived.BigQuiet
import Derived.Deep.DeepCutAuto
namespace Go.Proofs.Ytdmckjojeddaaaa
open Go.RowKit Go.Proofs.YtdmckjojeddaaaaKit Go.Proofs.YtdmckjojeddaaaaPlain

/-- What a node stands below. -/
def TopAt (base : Nat) (w : World) (seed : Int) (tp : Option Addr) (top : Option (List UInt8)) : Prop :=
  (tp = none ∧ top = none) ∨ ∃ b k v lp rp sz dg, tp = some ⟨b, 0, none⟩ ∧ top = some k ∧ Node base w seed b k v lp rp sz dg
theorem TopAt.keep {base : Nat} {w w1 : World} {seed : Int} {tp : Option Addr} {top : Option (List UInt8)} {S : Nat → Prop} (h : TopAt base w seed tp top) (hk : Keep S w w1) (hs : ∀ b, S b → Mut base w b) (hn : ∀ x, S x → ∃ cs, Blk w x 130 cs) : TopAt base w1 seed tp top := by
  rcases h with h | ⟨b, k, v, lp, rp, sz, dg, h1, h2, h3⟩
  · exact .inl h
  · refine .inr ⟨b, k, v, lp, rp, sz, dg, h1, h2, h3.keep hk hs (fun hb => ?_)⟩
    obtain ⟨cs, hc⟩ := hn b hb
    obtain ⟨cs', hc'⟩ := h3.blk
    exact hc.ne_ hc' (by decide) rfl
theorem RSt.isReader {base : Nat} {w : World} {rb mb : Nat} {seed left : Int} {bs : List UInt8} {last : Option (List UInt8)} {bad : Bool} (h : RSt base w rb mb seed bs left last bad) : ∀ x, Only rb x → ∃ cs, Blk w x 130 cs := by
  obtain ⟨A, c, L, _, hr, _⟩ := h.rdr
  rintro x rfl
  exact ⟨_, hr⟩

/-- What node hands back. -/
def NodeRet (base : Nat) (w : World) (rb mb : Nat) (seed : Int) (top : Option (List UInt8)) (bs : List UInt8) (left : Int) (last : Option (List UInt8)) (e : Ending) (w' : World) : Prop :=
  ∃ t bs' left' last' bad', e = .returned (.pointer t.ptr) ∧ Rep base w' seed t ∧ t.blocks.Nodup ∧ (∀ x ∈ t.blocks, w.heap.size ≤ x) ∧ ((t.size : Nat) : Int) ≤ left ∧
    RSt base w' rb mb seed bs' left' last' bad' ∧ Keep (Only rb) w w' ∧ Got seed true top bs left last t bs' left' last' bad' ∧ ∀ x ∈ t.blocks, NewNode w.heap.size w' x

theorem four {base : Nat} {w : World} {A : Option Addr} {x : List UInt8} (h : Bytes base w A 4 x) : ∃ ad x0 x1 x2 x3, A = some ad ∧ x = [x0, x1, x2, x3] ∧
    w.cell? ad = some (.int .u8 (x0.toNat : Int)) ∧ w.cell? ⟨ad.block, ad.off + 1, none⟩ = some (.int .u8 (x1.toNat : Int)) ∧ w.cell? ⟨ad.block, ad.off + 2, none⟩ = some (.int .u8 (x2.toNat : Int)) ∧ w.cell? ⟨ad.block, ad.off + 3, none⟩ = some (.int .u8 (x3.toNat : Int)) := by
  have hl := h.len
  match x, hl with
  | [x0, x1, x2, x3], _ =>
    obtain ⟨ad, rfl, h0⟩ := h.at_ (k := 0) (by omega)
    obtain ⟨_, e1, h1⟩ := h.at_ (k := 1) (by omega)
    obtain ⟨_, e2, h2⟩ := h.at_ (k := 2) (by omega)
    obtain ⟨_, e3, h3⟩ := h.at_ (k := 3) (by omega)
    injection e1 with e1; injection e2 with e2; injection e3 with e3
    subst e1; subst e2; subst e3
    exact ⟨_, x0, x1, x2, x3, rfl, rfl, h0, h1, h2, h3⟩

theorem four_at {base : Nat} {w : World} {ad : Addr} {x0 x1 x2 x3 : UInt8} (h : Bytes base w (some ad) 4 [x0, x1, x2, x3]) :
    w.cell? ad = some (.int .u8 (x0.toNat : Int)) ∧ w.cell? ⟨ad.block, ad.off + 1, none⟩ = some (.int .u8 (x1.toNat : Int)) := by
  obtain ⟨ad', y0, y1, y2, y3, e, e2, h0, h1, _⟩ := four h
  injection e with e
  simp only [List.cons.injEq, and_true] at e2
  obtain ⟨rfl, rfl, _⟩ := e2
  subst e
  exact ⟨h0, h1⟩
theorem node_bad {base : Nat} {w w2 : World} {rb mb : Nat} {seed left left2 : Int} {bs bs2 : List UInt8} {last last2 top : Option (List UInt8)} {bad : Bool} (h : RSt base w2 rb mb seed bs2 left2 last2 bad) (hk : Keep (Only rb) w w2) (h0 : 0 ≤ left)
    (hno : ∀ u c m a, u.ptr.isSome = true → ¬ Fit seed top bs left last u c m a) : NodeRet base w rb mb seed top bs left last (.returned (.pointer none)) (w2.setCell ⟨rb, 5, none⟩ (.bool true)) :=
  ⟨.nil, bs2, left2, last2, true, rfl, trivial, List.nodup_nil, fun _ h => (by cases h), by simp [AT.size]; exact h0, h.set5 true, hk.setCell (p := ⟨rb, 5, none⟩) (.inl rfl) _, .inr ⟨rfl, hno⟩, fun _ h => (by cases h)⟩
theorem Reads.grown_empty {base : Nat} {w w1 : World} {e n g : Nat} {t : TypeId} {A : Option Addr} {xs : List Value} (h : Reads base w e 1 A n xs) (hb : Blk w g t #[]) (hg : w.grownBy w1 (some g)) : Reads base w1 e 1 A n xs := by
  have hk : Keep (Only g) w w1 := (Keep.refl (Only g) w).grown hg (fun k e => .inl (by injection e with e; exact e.symm))
  refine ⟨h.1, fun hn => ?_⟩
  obtain ⟨ad, e1, hi, hc⟩ := h.2 hn
  have h0 : 0 < xs.length := by have := h.1; omega
  have hne : ad.block ≠ g := by
    intro e2
    have h2 := hc 0 _ (List.getElem?_eq_getElem h0)
    have h3 : ad.add 0 = ad := rfl
    rw [h3] at h2
    unfold Blk at hb
    unfold World.cell? at h2
    rw [e2, hb] at h2
    simp at h2
  exact ⟨ad, e1, hi.same (hk.block _ hi.lt hne) hk.size, fun j u hu => (hk.cell (p := ad.add j) (by rw [block_of_add]; exact hi.lt) (by rw [block_of_add]; exact hne)).trans (hc j u hu)⟩
theorem RSt.grown_empty {base : Nat} {w w1 : World} {rb mb g : Nat} {seed left : Int} {bs : List UInt8} {last : Option (List UInt8)} {bad : Bool} (h : RSt base w rb mb seed bs left last bad) (hb : Blk w g 5 #[]) (hg : w.grownBy w1 (some g)) : RSt base w1 rb mb seed bs left last bad := by
  have hk : Keep (Only g) w w1 := (Keep.refl (Only g) w).grown hg (fun k e => .inl (by injection e with e; exact e.symm))
  obtain ⟨A, c, L, hc, hr, hbs, hl⟩ := h.rdr
  refine ⟨h.ge, h.map.keep hk (h.map.2.ne_ hb (by decide)), A, c, L, hc, Blk.keep hr hk (Blk.ne_ hr hb (by decide)), Reads.grown_empty hbs hb hg, fun k e => ?_⟩
  obtain ⟨h3, B, d, h4, h5⟩ := hl k e
  exact ⟨h3, B, d, h4, Reads.grown_empty h5 hb hg⟩
theorem flag_bits {a : Nat} {fl fr : Bool} (h : a = flagOf fl fr) : (bits .and .u8 (a : Int) 1 != 0) = fl ∧ (bits .and .u8 (a : Int) 2 != 0) = fr := by
  subst h
  cases fl <;> cases fr <;> exact ⟨by decide, by decide⟩

theorem NewNode.low {B x : Nat} {w w' : World} (h : NewNode B w x) (hl : Low w w') (hx : x < w.heap.size) : NewNode B w' x := fun i hi A n c hc => h i hi A n c ((hl.2 x i hx hi).symm.trans hc)
theorem NewNode.keep {B x : Nat} {w w' : World} {S : Nat → Prop} (h : NewNode B w x) (hk : Keep S w w') (hx : x < w.heap.size) (hn : ¬ S x) : NewNode B w' x := fun i hi A n c hc => h i hi A n c ((hk.cell (p := ⟨x, i, none⟩) hx hn).symm.trans hc)
theorem NewNode.weak {B B' x : Nat} {w : World} (h : NewNode B w x) (hb : B' ≤ B) : NewNode B' w x := fun i hi A n c hc ad e => Nat.le_trans hb (h i hi A n c hc ad e)
/-- A node that is being read, with what is below it by now. -/
structure Under (base : Nat) (w0 : World) (rb mb nb : Nat) (seed : Int) (k v : List UInt8) (l r : AT) (bs : List UInt8) (left : Int) (last : Option (List UInt8)) (bad : Bool) (w : World) : Prop where
  node : Node base w seed nb k v l.ptr r.ptr 0 0
  repl : Rep base w seed l
  repr : Rep base w seed r
  nd : (l.blocks ++ r.blocks).Nodup
  newer : ∀ x ∈ l.blocks ++ r.blocks, nb < x
  rst : RSt base w rb mb seed bs left last bad
  keep : Keep (Only rb) w0 w
  new : w0.heap.size ≤ nb
  far : ∀ x, x = nb ∨ x ∈ l.blocks ++ r.blocks → NewNode w0.heap.size w x
section
variable {base : Nat} {w0 w w1 : World} {rb mb nb : Nat} {seed left : Int} {k v bs : List UInt8} {l r : AT} {last : Option (List UInt8)} {bad : Bool}
theorem Under.start (hn : Node base w seed nb k v none none 0 0) (hr : RSt base w rb mb seed bs left last bad) (hk : Keep (Only rb) w0 w) (h : w0.heap.size ≤ nb) (hf : NewNode w0.heap.size w nb) : Under base w0 rb mb nb seed k v .nil .nil bs left last bad w :=
  ⟨hn, trivial, trivial, List.nodup_nil, fun _ h => (by cases h), hr, hk, h, fun x hx => hx.elim (fun e => e ▸ hf) (fun h => (by cases h))⟩
theorem Under.inside (h : Under base w0 rb mb nb seed k v l r bs left last bad w) : ∀ x, x = nb ∨ x ∈ l.blocks ++ r.blocks → x < w.heap.size := fun x hx => hx.elim (fun e => e ▸ h.node.lt) (fun hx => (List.mem_append.1 hx).elim h.repl.lt h.repr.lt)
theorem Under.rne (h : Under base w0 rb mb nb seed k v l r bs left last bad w) : nb ≠ rb := by
  obtain ⟨_, hb⟩ := h.node.blk
  obtain ⟨_, _, _, _, hr, _⟩ := h.rst.rdr
  exact hb.ne_ hr (by decide)
theorem Under.mne (h : Under base w0 rb mb nb seed k v l r bs left last bad w) : nb ≠ mb := fun e => h.rst.map.ne_node h.node e.symm
theorem Rep.rdr {t : AT} (h : Rep base w seed t) (hr : RSt base w rb mb seed bs left last bad) : rb ∉ t.blocks := by
  obtain ⟨cs, hb⟩ := hr.isReader rb rfl
  induction t with
  | nil => simp [AT.blocks]
  | node b k v l r ihl ihr =>
    obtain ⟨_, hb2⟩ := h.root.blk
    simp only [AT.blocks, List.mem_cons, List.mem_append, not_or]
    exact ⟨hb.ne_ hb2 (by decide), ihl h.2.1, ihr h.2.2⟩
theorem Under.new_ (h : Under base w0 rb mb nb seed k v l r bs left last bad w) (hk : Keep No w w1) : Under base w0 rb mb nb seed k v l r bs left last bad w1 :=
  ⟨h.node.keep hk (fun _ x => x.elim) (fun x => x), h.repl.new_ hk, h.repr.new_ hk, h.nd, h.newer, h.rst.new_ hk, h.keep.trans hk (fun _ x => x.elim), h.new, fun x hx => (h.far x hx).low (Low.no hk) (h.inside x hx)⟩
/-- The reader has been written, and new blocks came. -/
theorem Under.reads {bs' : List UInt8} {left' : Int} {last' : Option (List UInt8)} {bad' : Bool} (h : Under base w0 rb mb nb seed k v l r bs left last bad w) (hk : Keep (Only rb) w w1) (hr : RSt base w1 rb mb seed bs' left' last' bad') : Under base w0 rb mb nb seed k v l r bs' left' last' bad' w1 :=
  ⟨h.node.keep hk h.rst.only h.rne, h.repl.keep hk h.rst.only (fun b hb e => h.repl.rdr h.rst (e ▸ hb)), h.repr.keep hk h.rst.only (fun b hb e => h.repr.rdr h.rst (e ▸ hb)), h.nd, h.newer, hr, h.keep.trans hk (fun _ x => .inl x), h.new, fun x hx => (h.far x hx).keep hk (h.inside x hx) (fun e => hx.elim (fun e2 => h.rne (e2.symm.trans e)) (fun hx => (List.mem_append.1 hx).elim (fun hx => h.repl.rdr h.rst (e ▸ hx)) (fun hx => h.repr.rdr h.rst (e ▸ hx))))⟩
theorem Under.set5 (h : Under base w0 rb mb nb seed k v l r bs left last bad w) (x : Bool) : Under base w0 rb mb nb seed k v l r bs left last x (w.setCell ⟨rb, 5, none⟩ (.bool x)) :=
  h.reads ((Keep.refl (Only rb) w).setCell (p := ⟨rb, 5, none⟩) (.inl rfl) _) (h.rst.set5 x)
theorem Under.set34 (h : Under base w0 rb mb nb seed k v l r bs left last bad w) {B : Option Addr} {d : Nat} (hb : Bytes base w B k.length k) : Under base w0 rb mb nb seed k v l r bs left (some k) bad ((w.setCell ⟨rb, 3, none⟩ (.slice B k.length d)).setCell ⟨rb, 4, none⟩ (.bool true)) :=
  h.reads (((Keep.refl (Only rb) w).setCell (p := ⟨rb, 3, none⟩) (.inl rfl) _).setCell (p := ⟨rb, 4, none⟩) (.inl rfl) _) (h.rst.set34 hb h.node.2.1.2.1)
theorem Under.setL {t : AT} (h : Under base w0 rb mb nb seed k v .nil .nil bs left last bad w) (ht : Rep base w seed t) (hn : t.blocks.Nodup) (hnew : ∀ x ∈ t.blocks, nb < x) (hfar : ∀ x ∈ t.blocks, NewNode w0.heap.size w x) : Under base w0 rb mb nb seed k v t .nil bs left last bad (w.setCell ⟨nb, 3, none⟩ (.pointer t.ptr)) := by
  have hk : Keep (Only nb) w (w.setCell ⟨nb, 3, none⟩ (.pointer t.ptr)) := (Keep.refl (Only nb) w).setCell (p := ⟨nb, 3, none⟩) (.inl rfl) _
  have hm : ∀ x, Only nb x → Mut base w x := fun x e => e ▸ h.node.mut
  exact ⟨h.node.set3 _, ht.keep hk hm (fun b hb e => by have := hnew b hb; have : b = nb := e; omega), trivial, by simpa [AT.blocks] using hn, by simpa [AT.blocks] using hnew, h.rst.keep hk hm (fun e => h.rne e.symm) (fun e => h.mne e.symm),
    h.keep.trans hk (fun x e => .inr (e ▸ h.new)), h.new, fun x hx => hx.elim (fun e => e ▸ (h.far nb (.inl rfl)).low ((Low.refl w).set nb 3 (by omega) _) h.node.lt) (fun hx => by
      have hx' : x ∈ t.blocks := by simpa [AT.blocks] using hx
      exact (hfar x hx').low ((Low.refl w).set nb 3 (by omega) _) (ht.lt hx'))⟩
theorem Under.setR {t : AT} (h : Under base w0 rb mb nb seed k v l .nil bs left last bad w) (ht : Rep base w seed t) (hn : (l.blocks ++ t.blocks).Nodup) (hnew : ∀ x ∈ t.blocks, nb < x) (hfar : ∀ x ∈ t.blocks, NewNode w0.heap.size w x) : Under base w0 rb mb nb seed k v l t bs left last bad (w.setCell ⟨nb, 4, none⟩ (.pointer t.ptr)) := by
  have hk : Keep (Only nb) w (w.setCell ⟨nb, 4, none⟩ (.pointer t.ptr)) := (Keep.refl (Only nb) w).setCell (p := ⟨nb, 4, none⟩) (.inl rfl) _
  have hm : ∀ x, Only nb x → Mut base w x := fun x e => e ▸ h.node.mut
  have hl : ∀ x ∈ l.blocks, nb < x := fun x hx => h.newer x (List.mem_append_left _ hx)
  exact ⟨h.node.set4 _, h.repl.keep hk hm (fun b hb e => by have := hl b hb; have : b = nb := e; omega), ht.keep hk hm (fun b hb e => by have := hnew b hb; have : b = nb := e; omega), hn,
    fun x hx => (List.mem_append.1 hx).elim (hl x) (hnew x), h.rst.keep hk hm (fun e => h.rne e.symm) (fun e => h.mne e.symm), h.keep.trans hk (fun x e => .inr (e ▸ h.new)), h.new,
    fun x hx => hx.elim (fun e => e ▸ (h.far nb (.inl rfl)).low ((Low.refl w).set nb 4 (by omega) _) h.node.lt) (fun hx => (List.mem_append.1 hx).elim (fun hx => (h.far x (.inr (List.mem_append_left _ hx))).low ((Low.refl w).set nb 4 (by omega) _) (h.repl.lt hx)) (fun hx => (hfar x hx).low ((Low.refl w).set nb 4 (by omega) _) (ht.lt hx)))⟩
end
theorem under_end {base : Nat} {w0 w w1 : World} {rb mb nb : Nat} {seed left left4 : Int} {k v bs bs4 : List UInt8} {l r : AT} {last last4 top : Option (List UInt8)} {bad4 : Bool}
    (h : Under base w0 rb mb nb seed k v l r bs4 left4 last4 bad4 w) (hr : Rep base w1 seed (.node nb k v l r)) (hk : Keep (Only nb) w w1) (hlow : Low w w1) (hsz : ((l.size + r.size : Nat) : Int) + 1 ≤ left) (hg : Got seed true top bs left last (.node nb k v l r) bs4 left4 last4 bad4) :
    NodeRet base w0 rb mb seed top bs left last (.returned (.pointer (some ⟨nb, 0, none⟩))) w1 := by
  have hm : ∀ x, Only nb x → Mut base w x := fun x e => e ▸ h.node.mut
  refine ⟨_, bs4, left4, last4, bad4, rfl, hr, ?_, ?_, ?_, h.rst.keep hk hm (fun e => h.rne e.symm) (fun e => h.mne e.symm), h.keep.trans hk (fun x e => .inr (e ▸ h.new)), hg, fun x hx => (h.far x (List.mem_cons.1 hx)).low hlow (h.inside x (List.mem_cons.1 hx))⟩
  · rw [AT.blocks, List.nodup_cons]
    exact ⟨fun hx => Nat.lt_irrefl _ (h.newer _ hx), h.nd⟩
  · intro x hx
    rcases List.mem_cons.1 hx with e | hx
    · exact e ▸ h.new
    · exact Nat.le_trans h.new (Nat.le_of_lt (h.newer x hx))
  · simp only [AT.size]; omega
theorem size_or (x2 x3 : UInt8) : bits .or .i64 (wrap64 (x2.toNat : Int)) (wrap64 (wrap64 (x3.toNat : Int) * 256)) = ((x2.toNat + x3.toNat * 256 : Nat) : Int) := by
  have h2 := x2.toNat_lt
  have h3 := x3.toNat_lt
  have e2 : wrap64 (x2.toNat : Int) = (x2.toNat : Int) := by unfold wrap64; omega
  have e3 : wrap64 (x3.toNat : Int) = (x3.toNat : Int) := by unfold wrap64; omega
  have e4 : wrap64 ((x3.toNat : Int) * 256) = ((x3.toNat * 2 ^ 8 : Nat) : Int) := by unfold wrap64; omega
  rw [e2, e3, e4, or_byte _ _ 8 (by omega) (by omega)]

set_option maxHeartbeats 8000000 in
set_option maxRecDepth 100000 in
theorem node_step {base : Nat} {w : World} {rb mb : Nat} {seed left : Int} {bs : List UInt8} {last top : Option (List UInt8)} {tp : Option Addr} (h : RSt base w rb mb seed bs left last false) (ht : TopAt base w seed tp top) (h0 : 0 ≤ left) (h1 : left ≤ 100000) (hb : base ≤ w.heap.size)
    (IH : ∀ (w : World) (left2 : Int) (bs : List UInt8) (last top : Option (List UInt8)) (tp : Option Addr), RSt base w rb mb seed bs left2 last false → TopAt base w seed tp top → 0 ≤ left2 → left2 < left → base ≤ w.heap.size → Calls Try.prog 75 #[.pointer (some ⟨rb, 0, none⟩), .pointer tp] w (NodeRet base w rb mb seed top bs left2 last)) :
    Calls Try.prog 75 #[.pointer (some ⟨rb, 0, none⟩), .pointer tp] w (NodeRet base w rb mb seed top bs left last) := by
  have HI := Lib.hid IH
  have H := Lib.hid h
  have HT := Lib.hid ht
  clear IH h ht
  go_enter Try.func75, Try.ntmps75
  go_wp2_with (go_at_call 74; refine (rtake_any 4 H.out (by omega)).mono ?_; rintro e w1 ⟨A4, c4, x, bs1, bad1, rfl, hc4, b4, k4, r4, g4⟩; obtain ⟨ad, x0, x1, x2, x3, rfl, rfl, y0, y1, y2, y3⟩ := four b4; obtain ⟨Ar, cr, Lr, hcr, hrr, hbr, hlr⟩ := r4.rdr; obtain ⟨_, _, p2, _, _, _, pf⟩ := hrr.cells; have pf2 := pf 2; have R1 := Lib.hid r4; have K1 := Lib.hid k4; have G1 := Lib.hid g4; have B4 := Lib.hid b4; clear r4 k4 g4 hcr hrr hbr hlr b4 pf)
  go_quiet (fail)
  rw [size_or]
  have hx0 := x0.toNat_lt
  have hx1 := x1.toNat_lt
  obtain ⟨n, hn⟩ : ∃ n, n = x2.toNat + x3.toNat * 256 := ⟨_, rfl⟩
  rw [← hn]
  have hn2 : n < 100000 := by have := x2.toNat_lt; have := x3.toNat_lt; omega
  have HN := Lib.hid hn
  clear hn y0 y1 y2 y3
  go_upto_region 4 with fail
  obtain ⟨w2, hw2⟩ : ∃ x, x = (w1.drewN nq).setCell ⟨rb, 2, none⟩ (Value.int IntKind.i64 (left - 1)) := ⟨_, rfl⟩
  rw [← hw2]
  have r1 := R1.out.new_ ((Keep.refl No w1).drewN nq)
  have R2 := Lib.hid (show RSt base w2 rb mb seed bs1 (left - 1) last bad1 from hw2 ▸ r1.set2 (left - 1))
  have K2 := Lib.hid (show Keep (Only rb) w w2 from hw2 ▸ ((K1.out.drewN nq).setCell (p := ⟨rb, 2, none⟩) (.inl rfl) _))
  obtain ⟨y0, y1⟩ := four_at (show Bytes base w2 (some ad) 4 [x0, x1, x2, x3] from hw2 ▸ ((B4.out.drewN nq).setMut (p := ⟨rb, 2, none⟩) r1.mut _))
  have B2 := Lib.hid (show Bytes base w2 (some ad) 4 [x0, x1, x2, x3] from hw2 ▸ ((B4.out.drewN nq).setMut (p := ⟨rb, 2, none⟩) r1.mut _))
  clear r1 hw2 R1 K1 B4 p2 pf2
  obtain ⟨a0, ha0⟩ : ∃ a, a = x0.toNat := ⟨_, rfl⟩
  obtain ⟨a1, ha1⟩ : ∃ a, a = x1.toNat := ⟨_, rfl⟩
  rw [← ha0] at y0 hx0
  rw [← ha1] at y1 hx1
  have HA0 := Lib.hid ha0
  have HA1 := Lib.hid ha1
  clear ha0 ha1
  have GB : ∀ t : bad1 = true ∨ left - 1 < 0 ∨ 3 < a0 ∨ a1 < 1 ∨ 64 < a1 ∨ 1000 < n, ∀ u c m a, u.ptr.isSome = true → ¬ Fit seed top bs left last u c m a := fun t =>
    no_head (G1.out.imp (fun h => ⟨h.1, h.2.2⟩) (fun h => ⟨h.1, h.2.1.resolve_left (by simp)⟩)) (by rw [HA0.out, HA1.out, HN.out] at t; exact t)
  have HGB := Lib.hid GB
  have q5 : w2.cell? ⟨rb, 5, none⟩ = some (.bool bad1) := by obtain ⟨_, _, _, _, hr, _⟩ := R2.out.rdr; exact hr.cells.2.2.2.2.2.1
  have f5 : w2.frozen? ⟨rb, 5, none⟩ = false := by obtain ⟨_, _, _, _, hr, _⟩ := R2.out.rdr; exact hr.cells.2.2.2.2.2.2 5
  have q2 : w2.cell? ⟨rb, 2, none⟩ = some (.int .i64 (left - 1)) := by obtain ⟨_, _, _, _, hr, _⟩ := R2.out.rdr; exact hr.cells.2.2.1
  clear GB
  by_cases t1 : left - 1 < 0
  · have d1 : decide (left - 1 < 0) = true := by simpa using t1
    go_wp2
    go_ret
    exact node_bad R2.out K2.out h0 (HGB.out (.inr (.inl t1)))
  have d1 : decide (left - 1 < 0) = false := by simpa using t1
  by_cases t2 : 3 < a0
  · have d2 : decide ((a0 : Int) > 3) = true := by simp; omega
    go_wp2
    go_ret
    exact node_bad R2.out K2.out h0 (HGB.out (.inr (.inr (.inl t2))))
  have d2 : decide ((a0 : Int) > 3) = false := by simp; omega
  by_cases t3 : a1 < 1
  · have d3 : decide ((a1 : Int) < 1) = true := by simp; omega
    go_wp2
    go_ret
    exact node_bad R2.out K2.out h0 (HGB.out (.inr (.inr (.inr (.inl t3)))))
  have d3 : decide ((a1 : Int) < 1) = false := by simp; omega
  by_cases t4 : 64 < a1
  · have d4 : decide ((a1 : Int) > 64) = true := by simp; omega
    go_wp2
    go_ret
    exact node_bad R2.out K2.out h0 (HGB.out (.inr (.inr (.inr (.inr (.inl t4))))))
  have d4 : decide ((a1 : Int) > 64) = false := by simp; omega
  by_cases t5 : 1000 < n
  · have d5 : decide ((n : Int) > 1000) = true := by simp; omega
    go_wp2
    go_ret
    exact node_bad R2.out K2.out h0 (HGB.out (.inr (.inr (.inr (.inr (.inr t5))))))
  have d5 : decide ((n : Int) > 1000) = false := by simp; omega
  go_upto_region 7 with fail
  have hbad : bad1 = false := by
    rcases G1.out with ⟨h, _⟩ | ⟨_, _, h⟩
    · exact h
    · exfalso
      simp only [List.replicate, List.cons.injEq] at h
      have := HA1.out
      rw [h.2.1] at this
      exact t3 (by rw [this]; decide)
  subst hbad
  have G2 := Lib.hid (show bs = [x0, x1, x2, x3] ++ bs1 from G1.out.elim (fun h => h.2.2) (fun h => (by cases h.1)))
  clear G1 d1 d2 d3 d4 d5 q5 f5 q2
  have hw1 : wrap64 (a1 : Int) = (a1 : Int) := by unfold wrap64; omega
  have hmt : ∀ x, Only rb x → Mut base w2 x := R2.out.only
  go_wp2_with fail
  refine (rtake_any a1 R2.out (by omega)).mono ?_
  rintro e w3 ⟨A5, c5, kx, bs2, bad2, rfl, hc5, b5, k5, r5, g5⟩
  obtain rfl : kx.length = a1 := b5.len
  go_wp2_with fail
  refine (bclone A5 _ c5 kx w3 b5 (by omega)).mono ?_
  rintro e w4 ⟨Ak, ck, rfl, hck, hown4, k4⟩
  have r4 := r5.new_ k4
  have bk4 : Bytes base w4 Ak kx.length kx := Bytes.of_own hown4
  have OWK := Lib.hid hown4
  have K24 := Lib.hid (show Keep (Only rb) w2 w4 from k5.trans k4 (fun _ x => x.elim))
  have hz3 : w2.heap.size ≤ w3.heap.size := k5.size
  have hrb : rb < w.heap.size := by obtain ⟨_, _, _, _, hr, _⟩ := H.out.rdr; exact Blk.lt hr
  have G3 := Lib.hid g5
  have hz2 := K2.out.size
  have hz4 := K24.out.size
  clear hown4 k4 b5 k5 r5 g5 hc5
  go_wp2_with fail
  refine (rtake_any n (r4.new_ ((Keep.refl No w4).alloc (.cells #[] 5))) (by omega)).mono ?_
  rintro e w5 ⟨A6, c6, vx, bs3, bad3, rfl, hc6, b6, k6, r6, g6⟩
  obtain rfl : vx.length = n := b6.len
  have hz5 := k6.size
  have oe : w5.ownsRow w4.heap.size 5 1 (.slice (some ⟨w4.heap.size, 0, none⟩) 0 0) 0 [] :=
    own_keep (own_empty (Nat.le_refl _)) k6 (fun k hk e => by simp [Value.ownBlock] at hk; have : k = rb := e; omega)
  have OE := Lib.hid oe
  have B6 := Lib.hid b6
  have M2 := Lib.hid R2.out.only
  have M4 := Lib.hid r4.only
  have BK4 := Lib.hid bk4
  have K45 := Lib.hid (show Keep (Only rb) w4 w5 from ((Keep.refl (Only rb) w4).alloc _).trans k6 (fun _ x => .inl x))
  have E5 := Lib.hid ((Blk.new w4 5 #[]).keep k6 (fun e => by have : w4.heap.size = rb := e; omega))
  have R5 := Lib.hid r6
  have G5 := Lib.hid g6
  have hz45 : w4.heap.size ≤ w5.heap.size := by simp at hz5; omega
  clear oe b6 bk4 k6 r6 g6 r4 hc6 hz5 hmt
  obtain ⟨i0, hi0, hz0, hz1, hz2⟩ := info_parts info_u8
  have HI0 := Lib.hid (show _ ∧ _ ∧ _ ∧ _ from ⟨hi0, hz0, hz1, hz2⟩)
  clear hi0 hz0 hz1 hz2
  go_wp2_with (at_builtin; (refine wpList_append_any _ rfl (.tmp 65) (.tmp 68) _ rfl w4.heap.size 5 i0 _ 1 1 Try.underlying23 HI0.out.1 HI0.out.2.1 HI0.out.2.2.1 HI0.out.2.2.2 rfl (by omega) _ 0 [] rfl OE.out base A6 _ c6 (byteVs vx) rfl B6.out (byteVs_one _) (by simp only [maxLen]; omega) (by omega) hz45 ?_); intro v6 w6 hown6 hg6 _; rw [Nat.zero_add, List.nil_append] at hown6; obtain ⟨A9, c9, hv9, hc9⟩ := own_slice hown6; subst hv9; have HO6 := Lib.hid hown6; have HG6 := Lib.hid hg6; clear hown6 hg6)
  have r6 : RSt base w6 rb mb seed bs3 (left - 1) last bad3 := R5.out.grown_empty E5.out HG6.out
  have k46 : Keep (Only rb) w4 w6 := K45.out.grown HG6.out (fun k e => .inr (by have e2 : some w4.heap.size = some k := e; injection e2 with e2; omega))
  have k26 : Keep (Only rb) w2 w6 := K24.out.trans k46 (fun _ x => .inl x)
  have b6k : Bytes base w6 Ak kx.length kx := BK4.out.keep k46 M4.out
  have b6v : Bytes base w6 A9 vx.length vx := Bytes.of_own HO6.out
  have ok6 : w6.ownsRow w3.heap.size 5 1 (.slice Ak kx.length ck) kx.length (byteVs kx) := own_keep OWK.out k46 (fun x hx e => by
    have e2 : x = rb := e
    have := (World.ownsRow.lt OWK.out x hx).1
    have := K2.out.size
    omega)
  have hz03 : w.heap.size ≤ w3.heap.size ∧ w.heap.size ≤ w4.heap.size := ⟨by omega, by omega⟩
  have HFARN := Lib.hid (newNode_of (x2 := .int .u64 0) (x3 := .pointer none) (x4 := .pointer none) (x5 := .int .i64 0) (x6 := .int .u64 0) ok6 HO6.out hz03.1 hz03.2)
  clear ok6 hz03 OWK
  have HNB := Lib.hid (Blk.new w6 121 #[.slice Ak kx.length ck, .slice A9 vx.length c9, .int .u64 0, .pointer none, .pointer none, .int .i64 0, .int .u64 0])
  have kan := (Keep.refl No w6).alloc (.cells #[.slice Ak kx.length ck, .slice A9 vx.length c9, .int .u64 0, .pointer none, .pointer none, .int .i64 0, .int .u64 0] 121)
  have R7 := Lib.hid (r6.new_ kan)
  have BK7 := Lib.hid (b6k.new_ kan)
  have BV7 := Lib.hid (b6v.new_ kan)
  have B7 := Lib.hid ((B2.out.keep k26 M2.out).new_ kan)
  have k27 := k26.trans kan (fun _ x => x.elim)
  have K7 := Lib.hid (K2.out.trans k27 (fun _ x => .inl x))
  have hnb : w.heap.size ≤ w6.heap.size := by have := k46.size; omega
  have OKK := Lib.hid (show keyOk kx vx from ⟨by omega, by omega, by omega⟩)
  clear kan r6 k46 k26 b6k b6v k27 HO6 HG6 R5 E5 K45 K24 BK4 M2 M4 OE B6 R2 B2 HI0 hz4 hz45 hz2 hc9 hck y0 y1
  generalize w6.heap.size = nb at *
  generalize w6.alloc (.cells #[.slice Ak kx.length ck, .slice A9 vx.length c9, .int .u64 0, .pointer none, .pointer none, .int .i64 0, .int .u64 0] 121) = wn at *
  obtain ⟨p0, f5⟩ : wn.cell? ⟨rb, 0, none⟩ = some (.pointer (some ⟨mb, 0, none⟩)) ∧ wn.frozen? ⟨rb, 5, none⟩ = false := by obtain ⟨_, _, _, _, hr, _⟩ := R7.out.rdr; exact ⟨hr.cells.1, hr.cells.2.2.2.2.2.2 5⟩
  have m1 := R7.out.map.cells.2.1
  have n0 : wn.cell? ⟨nb, 0, none⟩ = some (.slice Ak kx.length ck) := HNB.out.cell 0
  have n2 : wn.cell? ⟨nb, 2, none⟩ = some (.int .u64 0) := HNB.out.cell 2
  have n2f : wn.frozen? ⟨nb, 2, none⟩ = false := HNB.out.frozen 2
  have hnr : nb ≠ rb := by obtain ⟨_, _, _, _, hr, _⟩ := R7.out.rdr; exact HNB.out.ne_ hr (by decide)
  have hnm : nb ≠ mb := HNB.out.ne_ R7.out.map.2 (by decide)
  go_region_held3 (fun w' => w'.cell? ⟨rb, 0, none⟩ = some (.pointer (some ⟨mb, 0, none⟩)) ∧ w'.cell? ⟨mb, 1, none⟩ = some (.int .u64 seed) ∧ w'.cell? ⟨nb, 0, none⟩ = some (.slice Ak kx.length ck))
    (first
      | exact ⟨p0, m1, n0⟩
      | (go_split_ands; exact ⟨(far_block _ _ _ _ (fun e => hnr e.symm)).trans (by assumption), (far_block _ _ _ _ (fun e => hnm e.symm)).trans (by assumption), (far_cell0 _ nb 2 0 _ (by decide)).trans (by assumption)⟩)
      | go_keep)
    (first
      | (go_at_call 83; refine (coin_any seed 3 Ak _ ck kx _ (BK7.out.drew) (by omega)).mono ?_; rintro e w' ⟨rfl, rfl⟩)
      | fail)
  rename_i hHeld8
  clear hHeld8
  obtain ⟨w8, hw8⟩ : ∃ x, x = (wn.setCell ⟨nb, 2, none⟩ (.int .u64 (coin seed 3 kx))).drew := ⟨_, rfl⟩
  rw [← hw8]
  have kn8 : Keep (Only nb) wn w8 := hw8 ▸ ((Keep.refl (Only nb) wn).setCell (p := ⟨nb, 2, none⟩) (.inl rfl) _).drew
  have mnb : ∀ x, Only nb x → Mut base wn x := fun x e => e ▸ HNB.out.mut (Nat.le_trans hb hnb) rfl
  have FAR8 := Lib.hid (show NewNode w.heap.size w8 nb from hw8 ▸ HFARN.out.low (((Low.refl wn).set nb 2 (by omega) _).trans (Low.no ((Keep.refl No _).drew))) HNB.out.lt)
  have N8 := Lib.hid (show Node base w8 seed nb kx vx none none 0 0 from ⟨Nat.le_trans hb hnb, OKK.out, Ak, ck, A9, c9, hw8 ▸ (HNB.out.set_ 2 (.int .u64 (coin seed 3 kx))).drew, BK7.out.keep kn8 mnb, BV7.out.keep kn8 mnb⟩)
  have R8 := Lib.hid (R7.out.keep kn8 mnb (fun e => hnr e.symm) (fun e => hnm e.symm))
  have B8 := Lib.hid (B7.out.keep kn8 mnb)
  have K8 := Lib.hid (show Keep (Only rb) w w8 from K7.out.trans kn8 (fun x e => .inr (e ▸ hnb)))
  have HT8 := Lib.hid (HT.out.keep K8.out H.out.only H.out.isReader)
  clear kn8 mnb hw8 HNB R7 B7 BK7 BV7 K7 H HT p0 f5 m1 n0 n2 n2f HFARN
  have q5 : w8.cell? ⟨rb, 5, none⟩ = some (.bool bad3) := by obtain ⟨_, _, _, _, hr, _⟩ := R8.out.rdr; exact hr.cells.2.2.2.2.2.1
  obtain ⟨X, hX⟩ : ∃ X, X = (bad3 || match top with | none => false | some x => !aboveB seed x kx) := ⟨_, rfl⟩
  have HX := Lib.hid hX
  clear hX
  go_upto_region 9 with fail
  go_cut [100] (fun s100 wx => s100 = .bool X ∧ Drawn w8 wx)
  case first =>
    cases bad3 with
    | true =>
      have hx : X = true := by rw [HX.out, Bool.true_or]
      subst hx
      go_wp2_with fail
      go_meet
      exact ⟨rfl, Drawn.refl w8⟩
    | false =>
      rcases HT8.out with ⟨rfl, rfl⟩ | ⟨b, k, v, lp, rp, sz, dg, rfl, rfl, hN⟩
      · have hx : X = false := by rw [HX.out, Bool.false_or]
        subst hx
        go_wp2_with fail
        go_meet
        exact ⟨rfl, Drawn.refl w8⟩
      · have hx : X = !aboveB seed k kx := by rw [HX.out, Bool.false_or]
        have hab := above_any hN N8.out
        clear hN
        generalize aboveB seed k kx = Y at hab hx
        have HAB := Lib.hid hab
        clear hab
        subst hx
        go_wp2_with (go_at_call 99; refine HAB.out.mono ?_; rintro e w' ⟨rfl, q, rfl⟩)
        cases Y with
        | true =>
          go_meet
          exact ⟨rfl, q, rfl⟩
        | false =>
          go_meet
          exact ⟨rfl, q, rfl⟩
  case rest =>
    obtain ⟨rfl, q, rfl⟩ := hcut
    have kq : Keep No w8 (w8.drewN q) := (Keep.refl No w8).drewN q
    have N9 := Lib.hid (N8.out.keep kq (fun _ x => x.elim) (fun x => x))
    have R9 := Lib.hid (R8.out.new_ kq)
    have B9 := Lib.hid (B8.out.new_ kq)
    have K9 := Lib.hid (K8.out.drewN q)
    have FAR9 := Lib.hid (FAR8.out.low (Low.no kq) N8.out.lt)
    clear kq N8 R8 B8 K8 HT8 q5 FAR8
    generalize w8.drewN q = w9 at *
    have q5 : w9.cell? ⟨rb, 5, none⟩ = some (.bool bad3) := by obtain ⟨_, _, _, _, hr, _⟩ := R9.out.rdr; exact hr.cells.2.2.2.2.2.1
    have f5 : w9.frozen? ⟨rb, 5, none⟩ = false := by obtain ⟨_, _, _, _, hr, _⟩ := R9.out.rdr; exact hr.cells.2.2.2.2.2.2 5
    have HX2 := Lib.hid (show X = true ↔ (bad3 = true ∨ ∃ x, top = some x ∧ ¬ Above seed x kx) from by
      rw [HX.out, Bool.or_eq_true]
      refine or_congr Iff.rfl ?_
      cases top with
      | none => simp
      | some x => simp [Above])
    have HNP := Lib.hid (fun t => no_pair (seed := seed) (top := top) (left := left) (last := last) G2.out (k := kx) (v := vx) (bs2 := bs2) (bs3 := bs3) (bad2 := bad2) (bad3 := bad3)
      (G3.out.imp (fun h => ⟨h.1, h.2.2⟩) (fun h => ⟨h.1, by rw [← HA1.out]; exact h.2.1.resolve_left (by simp)⟩)) HA1.out (G5.out.imp (fun h => h) (fun h => ⟨h.1, by rw [← HN.out]; exact h.2.1⟩)) t)
    cases X with
    | true =>
      go_wp2
      go_ret
      exact node_bad R9.out K9.out h0 (HNP.out (HX2.out.1 (by first | exact rfl | trivial)))
    | false =>
      have hx2 : ¬ (bad3 = true ∨ ∃ x, top = some x ∧ ¬ Above seed x kx) := fun h => by have := HX2.out.2 h; cases this
      have hb3 : bad3 = false := by cases bad3 with
        | true => exact absurd (.inl rfl) hx2
        | false => rfl
      subst hb3
      have HTOP := Lib.hid (show ∀ x, top = some x → Above seed x kx from fun x hx => by
        by_cases h : Above seed x kx
        · exact h
        · exact absurd (.inr ⟨x, hx, h⟩) hx2)
      have hb2 : bad2 = false := by
        rcases G5.out with ⟨_, h, _⟩ | ⟨h, _⟩
        · exact h
        · cases h
      subst hb2
      obtain ⟨fl, fr, hfl⟩ := flagOf_of (x := a0) (by omega)
      have HBS := Lib.hid (show bs = imageL1 fl fr kx vx ++ bs3 from by
        have e1 : bs1 = kx ++ bs2 := G3.out.elim (fun h => h.2.2) (fun h => (by cases h.1))
        have e2 : bs2 = vx ++ bs3 := G5.out.elim (fun h => h.2.2) (fun h => (by cases h.1))
        rw [head_of fl fr OKK.out (x0 := x0) (x1 := x1) (x2 := x2) (x3 := x3) (by rw [← HA0.out, hfl]) HA1.out.symm HN.out.symm, G2.out, e1, e2]
        simp)
      obtain ⟨y0, _⟩ := four_at B9.out
      rw [← HA0.out] at y0
      have HFL := Lib.hid hfl
      clear hx2 hfl HNP HX2 HX G2 G3 G5 f5 q5 t2 t3 t4 t5
      obtain ⟨e1, e2⟩ := flag_bits HFL.out
      go_upto_if 108 with fail
      have HU := Lib.hid (Under.start N9.out R9.out K9.out hnb FAR9.out)
      have hw09 := K9.out.size
      have hb9 := Nat.le_trans hb K9.out.size
      have hnb9 := N9.out.lt
      clear N9 K9 e1 FAR9
      go_cut [7] (fun s7 wx => s7 = .pointer (some ⟨nb, 0, none⟩) ∧ ∃ l bs4 left4 last4 bad4, Hid (Under base w rb mb nb seed kx vx l .nil bs4 left4 last4 bad4 wx) ∧ Hid (((l.size : Nat) : Int) ≤ left - 1) ∧ Hid (Got seed fl (some kx) bs3 (left - 1) last l bs4 left4 last4 bad4) ∧ Hid (Bytes base wx (some ad) 4 [x0, x1, x2, x3]))
      case first =>
        cases fl with
        | false =>
          go_wp2_with fail
          go_meet
          exact ⟨rfl, .nil, bs3, left - 1, last, false, HU, Lib.hid (by simp [AT.size]; omega), Lib.hid (got_nil (by omega)), B9⟩
        | true =>
          go_wp2_with (go_at_call 75; refine (HI.out w9 (left - 1) bs3 last (some kx) (some ⟨nb, 0, none⟩) R9.out (.inr ⟨nb, kx, vx, none, none, 0, 0, rfl, rfl, HU.out.node⟩) (by omega) (by omega) hb9).mono ?_; rintro e w' ⟨t, bs', left', last', bad', rfl, ht1, ht2, ht3, ht4, ht5, ht6, ht7, ht8⟩; have HU2 := Lib.hid (HU.out.reads ht6 ht5); have HT1 := Lib.hid (show _ ∧ _ ∧ _ ∧ _ ∧ _ ∧ _ from ⟨ht1, ht2, ht3, ht4, ht7, ht8⟩); have HB2 := Lib.hid (B9.out.keep ht6 R9.out.only); have c3 := (HU2.out.node.cells.choose_spec.choose_spec.choose_spec.choose_spec).2.2.2.2.2.1; have f3 := HU2.out.node.frozen 3; clear ht1 ht2 ht3 ht4 ht5 ht6 ht7 ht8)
          go_meet
          obtain ⟨ht1, ht2, ht3, ht4, ht7, ht8⟩ := HT1.out
          exact ⟨rfl, t, bs', left', last', bad', Lib.hid (HU2.out.setL ht1 ht2 (fun x hx => Nat.lt_of_lt_of_le hnb9 (ht3 x hx)) (fun x hx => (ht8 x hx).weak hw09)), Lib.hid ht4, Lib.hid ht7, Lib.hid (HB2.out.setMut (p := ⟨nb, 3, none⟩) HU2.out.node.mut _)⟩
      case rest =>
        obtain ⟨rfl, l, bs4, left4, last4, bad4, HL, HSZ, HGL, HBC⟩ := hcut
        obtain ⟨wd, rfl⟩ : ∃ x : World, x = wc := ⟨_, rfl⟩
        obtain ⟨Ar4, cr4, L4, hcr4, hr4, _, hl4⟩ := HL.out.rst.rdr
        obtain ⟨_, _, _, r3, r4a, _, _⟩ := hr4.cells
        obtain ⟨Ak2, ck2, Av2, cv2, bk2, _, k0, _⟩ := HL.out.node.cells
        have HLL := Lib.hid hl4
        have HBK := Lib.hid bk2
        clear hcr4 hr4 hl4 bk2
        obtain ⟨C, hC⟩ : ∃ C, C = (match last4 with | none => false | some x => decide (0 ≤ Lib.compareBytes x kx)) := ⟨_, rfl⟩
        have HC := Lib.hid hC
        clear hC
        go_upto_region 14 with fail
        go_cut [130] (fun s130 wx => s130 = .bool C ∧ Drawn wd wx)
        case first =>
          cases last4 with
          | none =>
            have hx : C = false := HC.out
            subst hx
            have r4 : wd.cell? ⟨rb, 4, none⟩ = some (.bool false) := r4a
            clear r4a
            go_quiet (fail)
            go_wp2_with fail
            go_meet
            exact ⟨rfl, _, rfl⟩
          | some x =>
            have hx : C = decide (0 ≤ Lib.compareBytes x kx) := HC.out
            obtain ⟨hxl, Bx, dx, rfl, hbx⟩ := HLL.out x rfl
            have hcmp := fun q => bcompare Bx Ak2 _ dx _ ck2 x kx (wd.drewN q) (hbx.drewN q) (HBK.out.drewN q)
            generalize Lib.compareBytes x kx = Y at hcmp hx
            have HCMP := Lib.hid hcmp
            clear hbx hcmp
            subst hx
            have r4 : wd.cell? ⟨rb, 4, none⟩ = some (.bool true) := r4a
            clear r4a
            go_quiet ((go_at_call 61; first | exact quiet_drawn (HCMP.out _) | exact quiet_add_left (HCMP.out _)))
            go_wp2_with fail
            go_meet
            exact ⟨rfl, _, rfl⟩
        case rest =>
          obtain ⟨rfl, q, rfl⟩ := hcut
          have kq : Keep No wd (wd.drewN q) := (Keep.refl No wd).drewN q
          have HE := Lib.hid (HL.out.new_ kq)
          have HBE := Lib.hid (HBC.out.new_ kq)
          clear kq HL HBC HLL HBK r3 r4a k0
          generalize wd.drewN q = we at *
          have hcc : C = true ↔ ∃ x, last4 = some x ∧ ¬ Lt x kx := by
            rw [HC.out]
            cases last4 with
            | none => simp
            | some x => simp [Lt]
          have HCC := Lib.hid hcc
          clear hcc HC
          have q5 : we.cell? ⟨rb, 5, none⟩ = some (.bool bad4) := by obtain ⟨_, _, _, _, hr, _⟩ := HE.out.rst.rdr; exact hr.cells.2.2.2.2.2.1
          have f5 : we.frozen? ⟨rb, 5, none⟩ = false := by obtain ⟨_, _, _, _, hr, _⟩ := HE.out.rst.rdr; exact hr.cells.2.2.2.2.2.2 5
          go_upto_if 130 with fail
          go_cut [7] (fun s7 wx => s7 = .pointer (some ⟨nb, 0, none⟩) ∧ Hid (Under base w rb mb nb seed kx vx l .nil bs4 left4 last4 (bad4 || C) wx) ∧ Hid (Bytes base wx (some ad) 4 [x0, x1, x2, x3]))
          case first =>
            cases C with
            | false =>
              go_wp2_with fail
              go_meet
              exact ⟨rfl, Lib.hid (by rw [Bool.or_false]; exact HE.out), HBE⟩
            | true =>
              go_wp2_with fail
              go_meet
              exact ⟨rfl, Lib.hid (by rw [Bool.or_true]; exact HE.out.set5 true), Lib.hid (HBE.out.setMut (p := ⟨rb, 5, none⟩) HE.out.rst.mut _)⟩
          case rest =>
            obtain ⟨rfl, HF, HBF⟩ := hcut
            clear q5 f5 HE HBE
            obtain ⟨wf, rfl⟩ : ∃ x : World, x = wc := ⟨_, rfl⟩
            obtain ⟨bad5, hbad5⟩ : ∃ x, x = (bad4 || C) := ⟨_, rfl⟩
            rw [← hbad5] at HF
            have HB5 := Lib.hid hbad5
            clear hbad5
            obtain ⟨_, _, L5, _, hr5, _, _⟩ := HF.out.rst.rdr
            obtain ⟨_, _, _, r3, r4, r5, rf⟩ := hr5.cells
            have rf3 := rf 3
            have rf4 := rf 4
            have rf5 := rf 5
            obtain ⟨Ak2, ck2, Av2, cv2, bk2, _, k0, _⟩ := HF.out.node.cells
            have HBK := Lib.hid bk2
            clear hr5 rf bk2
            have hne1 : nb ≠ rb := HF.out.rne
            go_upto_region 17 with fail
            have HG := Lib.hid (HF.out.set34 (d := ck2) HBK.out)
            have m3 : Mut base (wf.setCell ⟨rb, 3, none⟩ (.slice Ak2 kx.length ck2)) rb := by
              obtain ⟨_, _, _, _, hr, _⟩ := HF.out.rst.rdr
              exact Blk.mut (Blk.set_ hr 3 _) HF.out.rst.ge rfl
            have HBG := Lib.hid ((HBF.out.setMut (p := ⟨rb, 3, none⟩) HF.out.rst.mut (.slice Ak2 kx.length ck2)).setMut (p := ⟨rb, 4, none⟩) m3 (.bool true))
            clear m3 r3 r4 r5 rf3 rf4 rf5 k0 HF HBF HBK
            generalize (wf.setCell ⟨rb, 3, none⟩ (.slice Ak2 kx.length ck2)).setCell ⟨rb, 4, none⟩ (.bool true) = wg at *
            obtain ⟨y0, _⟩ := four_at HBG.out
            rw [← HA0.out] at y0
            have q5 : wg.cell? ⟨rb, 5, none⟩ = some (.bool bad5) := by obtain ⟨_, _, _, _, hr, _⟩ := HG.out.rst.rdr; exact hr.cells.2.2.2.2.2.1
            have HTRUE : bad5 = true → bad4 = true ∨ C = true := fun h => by have := HB5.out; rw [h] at this; simpa using this.symm
            have HFALSE : bad5 = false → bad4 = false ∧ C = false := fun h => by have := HB5.out; rw [h] at this; simpa using this.symm
            have HT5 := Lib.hid HTRUE
            have HF5 := Lib.hid HFALSE
            have HL4 := Lib.hid (show bad4 = false → 0 ≤ left4 ∧ ((l.size : Nat) : Int) + left4 = left - 1 from fun h => by
              rcases HGL.out with ⟨_, _, hf⟩ | ⟨h2, _⟩
              · exact ⟨hf.nonneg, hf.num.symm⟩
              · rw [h] at h2; cases h2)
            clear HTRUE HFALSE HB5 HBG
            obtain ⟨D, hD⟩ : ∃ D, D = (fr && !bad5) := ⟨_, rfl⟩
            have HD := Lib.hid hD
            clear hD
            obtain ⟨FR, hFR⟩ : ∃ FR, FR = fr := ⟨_, rfl⟩
            rw [← hFR] at e2 HD HBS
            have HFR := Lib.hid hFR
            clear hFR
            go_cut [155] (fun s155 wx => s155 = .bool D ∧ wg = wx)
            case first =>
              cases FR with
              | false =>
                have hx : D = false := by rw [HD.out, Bool.false_and]
                subst hx
                go_wp2_with fail
                go_meet
                exact ⟨rfl, rfl⟩
              | true =>
                cases bad5 with
                | false =>
                  have hx : D = true := HD.out
                  subst hx
                  go_wp2_with fail
                  go_meet
                  exact ⟨rfl, rfl⟩
                | true =>
                  have hx : D = false := HD.out
                  subst hx
                  go_wp2_with fail
                  go_meet
                  exact ⟨rfl, rfl⟩
            case rest =>
              obtain ⟨rfl, rfl⟩ := hcut
              clear q5 y0 e2
              go_upto_if 155 with fail
              go_cut [7] (fun s7 wx => s7 = .pointer (some ⟨nb, 0, none⟩) ∧ ∃ r bs6 left6 last6 bad6, Hid (Under base w rb mb nb seed kx vx l r bs6 left6 last6 bad6 wx) ∧ Hid (((l.size + r.size : Nat) : Int) + 1 ≤ left) ∧ Hid (Got seed true top bs left last (.node nb kx vx l r) bs6 left6 last6 bad6))
              case first =>
                cases hD : D with
                | false =>
                  subst hD
                  go_wp2_with fail
                  go_meet
                  refine ⟨rfl, .nil, bs4, left4, some kx, bad5, HG, Lib.hid (by have := HSZ.out; simp only [AT.size]; omega), Lib.hid (got_node HBS.out OKK.out HTOP.out HGL.out HCC.out ?_)⟩
                  cases hb5 : bad5 with
                  | true => exact .inl ⟨HT5.out hb5, rfl⟩
                  | false =>
                    have hfr : FR = false := by have := HD.out; rw [hb5] at this; simpa using this.symm
                    subst hfr
                    obtain ⟨h4, hC⟩ := HF5.out hb5
                    exact .inr ⟨h4, hC, got_nil (HL4.out h4).1⟩
                | true =>
                  subst hD
                  have hd2 : FR = true ∧ bad5 = false := by have := HD.out.symm; simpa using this
                  obtain ⟨rfl, rfl⟩ := hd2
                  obtain ⟨h4, hC⟩ := HF5.out rfl
                  obtain ⟨hl4a, hl4b⟩ := HL4.out h4
                  have hbg : base ≤ wg.heap.size := Nat.le_trans hb HG.out.keep.size
                  have H4C := Lib.hid (show _ ∧ _ from ⟨h4, hC⟩)
                  have HL4B := Lib.hid hl4b
                  have hlt4 : left4 < left := by omega
                  have hnbg := HG.out.node.lt
                  have hw0g := HG.out.keep.size
                  clear h4 hC hl4b
                  go_wp2_with (go_at_call 75; refine (HI.out wg left4 bs4 (some kx) (some kx) (some ⟨nb, 0, none⟩) HG.out.rst (.inr ⟨nb, kx, vx, l.ptr, none, 0, 0, rfl, rfl, HG.out.node⟩) hl4a hlt4 hbg).mono ?_; rintro e w' ⟨t, bs', left', last', bad', rfl, ht1, ht2, ht3, ht4, ht5, ht6, ht7, ht8⟩; have HU2 := Lib.hid (HG.out.reads ht6 ht5); have HT1 := Lib.hid (show _ ∧ _ ∧ _ ∧ _ ∧ _ ∧ _ from ⟨ht1, ht2, ht3, ht4, ht7, ht8⟩); have c4 := (HU2.out.node.cells.choose_spec.choose_spec.choose_spec.choose_spec).2.2.2.2.2.2.1; have f4 := HU2.out.node.frozen 4; clear ht1 ht2 ht3 ht4 ht5 ht6 ht7 ht8)
                  go_meet
                  obtain ⟨ht1, ht2, ht3, ht4, ht7, ht8⟩ := HT1.out
                  refine ⟨rfl, t, bs', left', last', bad', Lib.hid (HU2.out.setR ht1 ?_ (fun x hx => Nat.lt_of_lt_of_le hnbg (ht3 x hx)) (fun x hx => (ht8 x hx).weak hw0g)), Lib.hid (by have := HL4B.out; omega), Lib.hid (got_node HBS.out OKK.out HTOP.out HGL.out HCC.out (.inr ⟨H4C.out.1, H4C.out.2, ht7⟩))⟩
                  have hnd := HG.out.nd
                  simp only [AT.blocks, List.append_nil] at hnd
                  refine List.nodup_append.2 ⟨hnd, ht2, fun x hx y hy e => ?_⟩
                  have h1 := HG.out.repl.lt hx
                  have h2 := ht3 y hy
                  omega
              case rest =>
                obtain ⟨rfl, r, bs6, left6, last6, bad6, HU, HSZ2, HGT⟩ := hcut
                obtain ⟨wj, rfl⟩ : ∃ x : World, x = wc := ⟨_, rfl⟩
                have p0 : wj.cell? ⟨rb, 0, none⟩ = some (.pointer (some ⟨mb, 0, none⟩)) := by obtain ⟨_, _, _, _, hr, _⟩ := HU.out.rst.rdr; exact hr.cells.1
                have HFR2 := Lib.hid (fresh_low HU.out.rst.map HU.out.node HU.out.repl HU.out.repr (fun h => Nat.lt_irrefl _ (HU.out.newer _ (List.mem_append_left _ h))) (fun h => Nat.lt_irrefl _ (HU.out.newer _ (List.mem_append_right _ h))) (by have := HSZ2.out; omega))
                go_wp2_with (go_at_call 100; refine HFR2.out.mono ?_; rintro e w' ⟨rfl, hr, hk, hlow⟩; have HEND := Lib.hid (under_end HU.out hr hk hlow HSZ2.out HGT.out); clear hr hk hlow)
                go_ret
                exact HEND.out

theorem rnode_any {base rb mb : Nat} {seed : Int} : ∀ (N : Nat) (w : World) (left : Int) (bs : List UInt8) (last top : Option (List UInt8)) (tp : Option Addr), left ≤ N → RSt base w rb mb seed bs left last false → TopAt base w seed tp top → 0 ≤ left → left ≤ 100000 → base ≤ w.heap.size →
    Calls Try.prog 75 #[.pointer (some ⟨rb, 0, none⟩), .pointer tp] w (NodeRet base w rb mb seed top bs left last) := by
  intro N
  induction N with
  | zero => exact fun w left bs last top tp hN h ht h0 h1 hb => node_step h ht h0 h1 hb (fun w l2 bs' last' top' tp' _ _ h2 h3 _ => by omega)
  | succ N ih => exact fun w left bs last top tp hN h ht h0 h1 hb => node_step h ht h0 h1 hb (fun w l2 bs' last' top' tp' hr ht2 h2 h3 hb2 => ih w l2 bs' last' top' tp' (by omega) hr ht2 h2 (by omega) hb2)
end Go.Proofs.Ytdmckjojeddaaaa
