/- Contract of the reference's grow. Conditions: the lengths are bounded. -/
import Derived.Test.YtdmckjojeddaaaaR5
import Derived.Test.YtdmckjojeddaaaaR1
import Derived.Test.YtdmckjojeddaaaaU3
import Derived.Deep.RegionHeld3
import Derived.Deep.QuietTactic
import Derived.Deep.DeepCutAuto
namespace Go.Proofs.Ytdmckjojeddaaaa
open Go.RowKit Go.Proofs.YtdmckjojeddaaaaKit Go.Proofs.YtdmckjojeddaaaaPlain

theorem pairs_off {base : Nat} {w w1 : World} {A : Option Addr} {n : Nat} {l : List Pair} {S : Nat → Prop} (h : Pairs base w A n l) (hk : Keep S w w1) (h1 : Off base 5 w S) (h2 : Off base 82 w S) : Pairs base w1 A n l := by
  obtain ⟨xs, hr, hf⟩ := h
  exact ⟨xs, hr.off hk h2, hf.mono (fun _ _ hx => PairR.off hx hk h1)⟩
theorem pairs_take {base : Nat} {w : World} {L : Option Addr} {m k : Nat} {l : List Pair} (h : Pairs base w L m l) (hk : k ≤ m) : Pairs base w L k (l.take k) := by
  obtain ⟨ys, hr, hf⟩ := h
  exact ⟨_, hr.take hk, hf.take k⟩
theorem pairs_drop_some {base : Nat} {w : World} {ad : Addr} {m k : Nat} {l : List Pair} (h : Pairs base w (some ad) m l) (hk : k < m) : Pairs base w (some (ad.add (k * 2))) (m - k) (l.drop k) := by
  obtain ⟨ys, hr, hf⟩ := h
  have := hr.cut (cap := m) (Nat.le_of_lt hk) (Nat.le_refl _)
  rw [if_neg (by omega)] at this
  exact ⟨_, this, hf.drop k⟩
theorem pairs_drop {base : Nat} {w : World} {L : Option Addr} {m d k : Nat} {l : List Pair} (h : Pairs base w L m l) (hk : k ≤ m) (hd : m ≤ d) : Pairs base w (if d = k then L else L.map (·.add (k * 2))) (m - k) (l.drop k) := by
  obtain ⟨ys, hr, hf⟩ := h
  exact ⟨_, hr.cut hk hd, hf.drop k⟩

/-- What grow leaves. -/
def GrowRet (base B : Nat) (seed : Int) (L : List NodeV) (l : PairL) (v : Value) (w : World) (e : Ending) (w' : World) : Prop :=
  ∃ A c, e = .returned (.slice A (L ++ (build seed l).nodes seed L.length).length c) ∧ OwnN base B (L ++ (build seed l).nodes seed L.length) (.slice A (L ++ (build seed l).nodes seed L.length).length c) w' ∧ Keep (fun b => v.ownBlock = some b) w w' ∧
    ∀ k, (Value.slice A (L ++ (build seed l).nodes seed L.length).length c).ownBlock = some k → v.ownBlock = some k ∨ w.heap.size ≤ k
def GrowAll (base B : Nat) (seed : Int) (N : Nat) : Prop := ∀ (l' : PairL), l'.length < N → ∀ (w : World) (Lp : Option Addr) (m d : Nat) (L : List NodeV) (v : Value), Pairs base w Lp m l' → m ≤ d → Okay l' → OwnN base B L v w → B ≤ w.heap.size → L.length + l'.length ≤ 100000 →
  Calls Try.prog 72 #[v, .int .u64 seed, .slice Lp m d] w (GrowRet base B seed L l' v w)
theorem topI_nil (seed : Int) : topI seed [] = -1 := rfl
theorem topI_cons {seed : Int} {l : PairL} (h : l ≠ []) : topI seed l = ((top seed l : Nat) : Int) := by
  cases l with
  | nil => exact absurd rfl h
  | cons p l => rfl

set_option maxHeartbeats 1000000 in
set_option maxRecDepth 100000 in
theorem grow_nil {base B : Nat} {seed : Int} {w : World} {Lp : Option Addr} {m d : Nat} {L : List NodeV} {v : Value} (hl : Pairs base w Lp m []) (ho : OwnN base B L v w) :
    Calls Try.prog 72 #[v, .int .u64 seed, .slice Lp m d] w (GrowRet base B seed L [] v w) := by
  have HT := Lib.hid (rtop_any seed Lp m d [] w hl (fun p hp => by cases hp) (by have := hl.len (by omega); simp at this; omega))
  rw [topI_nil] at HT
  obtain ⟨A9, n9, c9, rfl, hn9, hc9⟩ := ho.shape
  obtain rfl := hn9.out
  have HO := Lib.hid ho
  clear hl ho hc9
  go_enter Try.func72, Try.ntmps72
  go_wp2_with (go_at_call 97; refine HT.out.mono ?_; rintro e w' ⟨rfl, rfl⟩)
  go_ret
  have e0 : L ++ (build seed []).nodes seed L.length = L := by rw [build_nil, PT.nodes, List.append_nil]
  unfold GrowRet
  rw [e0]
  exact ⟨A9, c9, rfl, HO.out, Keep.refl _ _, fun k e => .inl e⟩

/-! ### A store into a row of nodes -/
theorem set6_list {xs : List Value} {pre post : List Value} {a0 a1 a2 a3 a4 a5 u0 u1 u2 u3 u4 u5 : Value} {k : Nat} (h : pre.length = k) (e : xs = pre ++ [a0, a1, a2, a3, a4, a5] ++ post) :
    ((((((xs.set k u0).set (k + 1) u1).set (k + 2) u2).set (k + 3) u3).set (k + 4) u4).set (k + 5) u5) = pre ++ [u0, u1, u2, u3, u4, u5] ++ post := by
  subst e h
  simp
theorem flat_split {α : Type} {R : α → List Value → Prop} {size : Nat} {l l' : List α} {x : α} {xs : List Value} (h : Flat R size (l ++ x :: l') xs) : ∃ a b c, xs = a ++ b ++ c ∧ Flat R size l a ∧ R x b ∧ b.length = size ∧ Flat R size l' c := by
  induction l generalizing xs with
  | nil =>
    obtain ⟨cs, ys, rfl, hc, hx, ht⟩ := h
    exact ⟨[], cs, ys, by simp, Flat.nil, hx, hc, ht⟩
  | cons y l ih =>
    obtain ⟨cs, ys, rfl, hc, hx, ht⟩ := h
    obtain ⟨a, b, c, rfl, h1, h2, h3, h4⟩ := ih ht
    exact ⟨cs ++ a, b, c, by simp, ⟨cs, a, rfl, hc, hx, h1⟩, h2, h3, h4⟩
def set6 (w : World) (g k : Nat) (u0 u1 u2 u3 u4 u5 : Value) : World :=
  (((((w.setCell ⟨g, k, none⟩ u0).setCell ⟨g, k + 1, none⟩ u1).setCell ⟨g, k + 2, none⟩ u2).setCell ⟨g, k + 3, none⟩ u3).setCell ⟨g, k + 4, none⟩ u4).setCell ⟨g, k + 5, none⟩ u5
theorem Keep.set6 {w : World} {g k : Nat} {u0 u1 u2 u3 u4 u5 : Value} : Keep (fun b => b = g) w (set6 w g k u0 u1 u2 u3 u4 u5) :=
  (((((((Keep.refl (fun b => b = g) w).setCell (p := ⟨g, k, none⟩) (.inl rfl) _).setCell (p := ⟨g, k + 1, none⟩) (.inl rfl) _).setCell (p := ⟨g, k + 2, none⟩) (.inl rfl) _).setCell (p := ⟨g, k + 3, none⟩) (.inl rfl) _).setCell (p := ⟨g, k + 4, none⟩) (.inl rfl) _).setCell (p := ⟨g, k + 5, none⟩) (.inl rfl) _)
theorem OwnN.set6 {base B : Nat} {w : World} {pre post : List NodeV} {x0 x : NodeV} {A : Option Addr} {n c : Nat} {u0 u1 u2 u3 u4 u5 : Value} (h : OwnN base B (pre ++ x0 :: post) (.slice A n c) w) (hbB : base ≤ B) (hx : NodeR base w x [u0, u1, u2, u3, u4, u5]) :
    ∃ g a0 a1 a2 a3 a4 a5, A = some ⟨g, 0, none⟩ ∧ w.cell? ⟨g, pre.length * 6, none⟩ = some a0 ∧ w.cell? ⟨g, pre.length * 6 + 1, none⟩ = some a1 ∧ w.cell? ⟨g, pre.length * 6 + 2, none⟩ = some a2 ∧ w.cell? ⟨g, pre.length * 6 + 3, none⟩ = some a3 ∧
      w.cell? ⟨g, pre.length * 6 + 4, none⟩ = some a4 ∧ w.cell? ⟨g, pre.length * 6 + 5, none⟩ = some a5 ∧ (∀ i, w.frozen? ⟨g, i, none⟩ = false) ∧
      OwnN base B (pre ++ x :: post) (.slice A n c) (set6 w g (pre.length * 6) u0 u1 u2 u3 u4 u5) := by
  obtain ⟨xs, h1, h2⟩ := h
  have hoff := Off.own h1 hbB (show 44 ≠ 5 by decide)
  obtain ⟨A', c', e, hcc⟩ := own_slice h1
  injection e with e1 e2 e3
  subst e1 e2 e3
  have hlen := h2.len
  obtain ⟨pa, pb, pc, rfl, f1, f2, f3, f4⟩ := flat_split h2
  obtain ⟨q0, q1, q2, q3, q4, q5, rfl⟩ : ∃ q0 q1 q2 q3 q4 q5, pb = [q0, q1, q2, q3, q4, q5] := by
    match pb, f3 with
    | [q0, q1, q2, q3, q4, q5], _ => exact ⟨q0, q1, q2, q3, q4, q5, rfl⟩
  have hpa : pa.length = pre.length * 6 := f1.len
  rcases h1.2 with ⟨hv, hz⟩ | ⟨g, cap, cur, hv, k2, k3, k4, k5, k6, k7⟩
  · injection hv with _ hv _
    simp at hv
  · injection hv with hv1 hv2 hv3
    subst hv1 hv3
    have hcell : ∀ j u, (pa ++ [q0, q1, q2, q3, q4, q5] ++ pc)[j]? = some u → w.cell? ⟨g, j, none⟩ = some u := fun j u hu => by
      have := (h1.cells (g := g) rfl) j u hu
      rwa [Addr.add_lit, Nat.zero_add] at this
    have hB : Blk w g 44 cur := k3
    have hat : ∀ j, j < 6 → (pa ++ [q0, q1, q2, q3, q4, q5] ++ pc)[pre.length * 6 + j]? = [q0, q1, q2, q3, q4, q5][j]? := fun j hj => by
      rw [List.getElem?_append_left (by simp; omega), List.getElem?_append_right (by omega), hpa, Nat.add_sub_cancel_left]
    refine ⟨g, q0, q1, q2, q3, q4, q5, rfl, hcell _ _ (hat 0 (by omega)), hcell _ _ (hat 1 (by omega)), hcell _ _ (hat 2 (by omega)), hcell _ _ (hat 3 (by omega)), hcell _ _ (hat 4 (by omega)), hcell _ _ (hat 5 (by omega)), fun i => hB.frozen i, ?_⟩
    have hB6 := (((((hB.set_ (pre.length * 6) u0).set_ (pre.length * 6 + 1) u1).set_ (pre.length * 6 + 2) u2).set_ (pre.length * 6 + 3) u3).set_ (pre.length * 6 + 4) u4).set_ (pre.length * 6 + 5) u5
    have hk6 : Keep (fun b => b = g) w (Go.Proofs.Ytdmckjojeddaaaa.set6 w g (pre.length * 6) u0 u1 u2 u3 u4 u5) := Keep.set6
    have hoff6 : Off base 5 w (fun b => b = g) := fun b hb => hoff b (by rw [hb]; rfl)
    have hln : (pre ++ x :: post).length = (pre ++ x0 :: post).length := by simp
    have hxl : (pa ++ [u0, u1, u2, u3, u4, u5] ++ pc).length = (pre ++ x0 :: post).length * 6 := by rw [← hlen]; simp
    refine ⟨pa ++ [u0, u1, u2, u3, u4, u5] ++ pc, ?_, ?_⟩
    · rw [hln]
      refine ⟨hxl, .inr ⟨g, c, _, rfl, k2, hB6, k4, k5, by simpa using k6, ?_⟩⟩
      have hset := set6_list (xs := cur.toList.take ((pre ++ x0 :: post).length * 6)) (u0 := u0) (u1 := u1) (u2 := u2) (u3 := u3) (u4 := u4) (u5 := u5) hpa k7
      rw [← hset]
      simp [List.take_set]
    · exact ((f1.append (Flat.one hx rfl)).append f4).mono (fun _ _ hx => NodeR.off hx hk6 hoff6) |> fun h => by simpa using h

/-! ### What is held while a node is grown -/
structure GSt (base B : Nat) (w : World) (v : Value) (l : PairL) (Lp : Option Addr) (xb : Nat) (k vv : List UInt8) (Ak Av : Option Addr) (cx : Array Value) (Lc : List NodeV) (vc : Value) (wc : World) : Prop where
  pairs : Pairs base wc Lp l.length l
  blk : Blk wc xb 44 cx
  own : OwnN base B Lc vc wc
  bk : BytesAt base wc Ak k.length k
  bv : BytesAt base wc Av vv.length vv
  keep : Keep (fun b => v.ownBlock = some b) w wc
  from_ : ∀ kk, vc.ownBlock = some kk → (v.ownBlock = some kk ∨ w.heap.size ≤ kk) ∧ kk ≠ xb
  xge : w.heap.size ≤ xb
  big : B ≤ wc.heap.size
section
variable {base B : Nat} {w : World} {v : Value} {l : PairL} {Lp : Option Addr} {xb : Nat} {k vv : List UInt8} {Ak Av : Option Addr} {cx : Array Value} {Lc : List NodeV} {vc : Value} {wc w' : World}
theorem GSt.new_ (h : GSt base B w v l Lp xb k vv Ak Av cx Lc vc wc) (hk : Keep No wc w') : GSt base B w v l Lp xb k vv Ak Av cx Lc vc w' :=
  ⟨h.pairs.new_ hk, h.blk.keep hk (fun x => x), OwnR.new_ h.own hk (fun _ _ hx => hx.keep hk (fun _ x => x.elim)), h.bk.new_ hk, h.bv.new_ hk, h.keep.trans hk (fun _ x => x.elim), h.from_, h.xge, Nat.le_trans h.big hk.size⟩
theorem GSt.set (h : GSt base B w v l Lp xb k vv Ak Av cx Lc vc wc) (hb : base ≤ xb) (i : Nat) (u : Value) : GSt base B w v l Lp xb k vv Ak Av (cx.setIfInBounds i u) Lc vc (wc.setCell ⟨xb, i, none⟩ u) := by
  have hk : Keep (Only xb) wc (wc.setCell ⟨xb, i, none⟩ u) := (Keep.refl (Only xb) wc).setCell (p := ⟨xb, i, none⟩) (.inl rfl) _
  have hoff : ∀ T, 44 ≠ T → Off base T wc (Only xb) := fun T hT x e => by rw [show x = xb from e]; exact ⟨hb, _, _, _, h.blk, hT⟩
  exact ⟨pairs_off h.pairs hk (hoff _ (by decide)) (hoff _ (by decide)), h.blk.set_ i u, OwnR.keep h.own hk (fun _ _ hx => hx.off hk (hoff _ (by decide))) (fun x e hx => (h.from_ x e).2 hx), h.bk.off hk (hoff _ (by decide)), h.bv.off hk (hoff _ (by decide)),
    h.keep.trans hk (fun x e => .inr (by rw [show x = xb from e]; exact h.xge)), h.from_, h.xge, by rw [setCell_size]; exact h.big⟩
/-- Behind a step that wrote the row, and new blocks, alone. -/
theorem GSt.row {Ld : List NodeV} {vd : Value} (h : GSt base B w v l Lp xb k vv Ak Av cx Lc vc wc) (hbB : base ≤ B) (hk : Keep (fun b => vc.ownBlock = some b) wc w') (ho : OwnN base B Ld vd w') (hf : ∀ kk, vd.ownBlock = some kk → vc.ownBlock = some kk ∨ wc.heap.size ≤ kk) : GSt base B w v l Lp xb k vv Ak Av cx Ld vd w' := by
  have hoff : ∀ T, 44 ≠ T → Off base T wc (fun b => vc.ownBlock = some b) := fun T hT => OwnR.off h.own hbB hT
  have hxl := h.blk.lt
  refine ⟨pairs_off h.pairs hk (hoff _ (by decide)) (hoff _ (by decide)), h.blk.keep hk (fun e => (h.from_ _ e).2 rfl), ho, h.bk.off hk (hoff _ (by decide)), h.bv.off hk (hoff _ (by decide)), h.keep.trans hk (fun x e => (h.from_ x e).1), fun kk e => ?_, h.xge, Nat.le_trans h.big hk.size⟩
  rcases hf kk e with e1 | e1
  · exact h.from_ kk e1
  · have := h.keep.size
    exact ⟨.inr (by omega), by omega⟩
end

theorem grow_held {w W W' : World} {ad : Addr} {r : Nat} {x0 x1 : Value} (hab : ad.block < w.heap.size)
    (h : W.cell? (ad.add r) = some x0 ∧ W.cell? ⟨(ad.add r).block, (ad.add r).off + 1, none⟩ = some x1 ∧ Keep No w W) (hk : Keep No W W') :
    W'.cell? (ad.add r) = some x0 ∧ W'.cell? ⟨(ad.add r).block, (ad.add r).off + 1, none⟩ = some x1 ∧ Keep No w W' := by
  obtain ⟨h0, h1, h2⟩ := h
  have hb : (ad.add r).block < W.heap.size := by rw [block_of_add]; exact Nat.lt_of_lt_of_le hab h2.size
  exact ⟨(hk.cell (p := ad.add r) hb (fun x => x)).trans h0, (hk.cell (p := ⟨(ad.add r).block, (ad.add r).off + 1, none⟩) hb (fun x => x)).trans h1, h2.trans hk (fun _ x => x.elim)⟩

theorem blk_keepNo {w w' : World} {g : Nat} {t : TypeId} {cs : Array Value} (h : Blk w g t cs) (hk : Keep No w w') : Blk w' g t cs := h.keep hk (fun x => x)
theorem grow_held6 {w W : World} {ad : Addr} {r xb : Nat} {x0 x1 u0 u1 u2 u3 u4 u5 : Value} (hab : ad.block < w.heap.size)
    (h : W.cell? (ad.add r) = some x0 ∧ W.cell? ⟨(ad.add r).block, (ad.add r).off + 1, none⟩ = some x1 ∧ Keep No w W) (hxb : w.heap.size ≤ xb) :
    ((((((W.setCell ⟨xb, 0, none⟩ u0).setCell ⟨xb, 1, none⟩ u1).setCell ⟨xb, 2, none⟩ u2).setCell ⟨xb, 3, none⟩ u3).setCell ⟨xb, 4, none⟩ u4).setCell ⟨xb, 5, none⟩ u5).cell? (ad.add r) = some x0 ∧
    ((((((W.setCell ⟨xb, 0, none⟩ u0).setCell ⟨xb, 1, none⟩ u1).setCell ⟨xb, 2, none⟩ u2).setCell ⟨xb, 3, none⟩ u3).setCell ⟨xb, 4, none⟩ u4).setCell ⟨xb, 5, none⟩ u5).cell? ⟨(ad.add r).block, (ad.add r).off + 1, none⟩ = some x1 ∧
    Keep No w ((((((W.setCell ⟨xb, 0, none⟩ u0).setCell ⟨xb, 1, none⟩ u1).setCell ⟨xb, 2, none⟩ u2).setCell ⟨xb, 3, none⟩ u3).setCell ⟨xb, 4, none⟩ u4).setCell ⟨xb, 5, none⟩ u5) := by
  obtain ⟨h0, h1, h2⟩ := h
  have hb : (ad.add r).block < W.heap.size := by rw [block_of_add]; exact Nat.lt_of_lt_of_le hab h2.size
  have hne : (ad.add r).block ≠ xb := by rw [block_of_add]; omega
  have hk : Keep (Only xb) W ((((((W.setCell ⟨xb, 0, none⟩ u0).setCell ⟨xb, 1, none⟩ u1).setCell ⟨xb, 2, none⟩ u2).setCell ⟨xb, 3, none⟩ u3).setCell ⟨xb, 4, none⟩ u4).setCell ⟨xb, 5, none⟩ u5) :=
    (((((((Keep.refl (Only xb) W).setCell (p := ⟨xb, 0, none⟩) (.inl rfl) _).setCell (p := ⟨xb, 1, none⟩) (.inl rfl) _).setCell (p := ⟨xb, 2, none⟩) (.inl rfl) _).setCell (p := ⟨xb, 3, none⟩) (.inl rfl) _).setCell (p := ⟨xb, 4, none⟩) (.inl rfl) _).setCell (p := ⟨xb, 5, none⟩) (.inl rfl) _)
  exact ⟨(hk.cell (p := ad.add r) hb hne).trans h0, (hk.cell (p := ⟨(ad.add r).block, (ad.add r).off + 1, none⟩) hb hne).trans h1, h2.trans hk (fun x e => .inr (by rw [show x = xb from e]; exact hxb))⟩
theorem GSt.back {base B : Nat} {seed : Int} {w : World} {v : Value} {l l' : PairL} {Lp : Option Addr} {xb : Nat} {k vv : List UInt8} {Ak Av : Option Addr} {cx : Array Value} {Lc : List NodeV} {vc : Value} {wc w' : World} {e : Ending}
    (h : GSt base B w v l Lp xb k vv Ak Av cx Lc vc wc) (hbB : base ≤ B) (hg : GrowRet base B seed Lc l' vc wc e w') :
    ∃ A n c, e = .returned (.slice A n c) ∧ Hid (n = (Lc ++ (build seed l').nodes seed Lc.length).length) ∧ Hid (GSt base B w v l Lp xb k vv Ak Av cx (Lc ++ (build seed l').nodes seed Lc.length) (.slice A n c) w') := by
  obtain ⟨A, c, rfl, ho, hk, hf⟩ := hg
  exact ⟨A, _, c, rfl, Lib.hid rfl, Lib.hid (h.row hbB hk ho hf)⟩
theorem head_at {seed : Int} {l : PairL} {i : Nat} (pre post : List NodeV) (h : l ≠ []) : ∃ y, (pre ++ (build seed l).nodes seed i ++ post)[pre.length]? = some y ∧ y.digest = (build seed l).sum seed := by
  cases hb : build seed l with
  | nil => exact absurd (build_nil_iff.1 hb) h
  | node k v a b => exact ⟨⟨k, v, mark seed (a.sum seed) k v (b.sum seed), 1 + a.size + b.size, a.at_ (i + 1), b.at_ (i + 1 + a.size)⟩, by simp [PT.nodes], rfl⟩
theorem digest_nonneg (seed : Int) (t : PT) : 0 ≤ t.sum seed := by cases t <;> simp [PT.sum, mark_nonneg]
theorem at_some {seed : Int} {l : PairL} {i : Nat} (h : l ≠ []) : (build seed l).at_ i = (i : Int) := by
  cases hb : build seed l with
  | nil => exact absurd (build_nil_iff.1 hb) h
  | node k v a b => rfl
theorem grow_start {base B : Nat} {w W : World} {v : Value} {l : PairL} {Lp : Option Addr} {k vv : List UInt8} {Ak Av : Option Addr} {cx : Array Value} {L : List NodeV} (hl : Pairs base w Lp l.length l) (ho : OwnN base B L v w) (hB : B ≤ w.heap.size) (hk : Keep No w W)
    (bk : BytesAt base W Ak k.length k) (bv : BytesAt base W Av vv.length vv) : GSt base B w v l Lp W.heap.size k vv Ak Av cx L v (W.alloc (.cells cx 44)) := by
  have hk2 := hk.alloc (.cells cx 44)
  exact ⟨hl.new_ hk2, Blk.new _ _ _, OwnR.new_ ho hk2 (fun _ _ hx => hx.keep hk2 (fun _ x => x.elim)), bk.alloc _, bv.alloc _, hk2.mono (fun _ x => x.elim), fun kk e => ⟨.inl e, fun e2 => by have := OwnR.lt_ ho e; have := hk.size; omega⟩, hk.size, Nat.le_trans hB hk2.size⟩
/-- The block was laid earlier. -/
theorem grow_start2 {base B : Nat} {w W : World} {v : Value} {l : PairL} {Lp : Option Addr} {xb : Nat} {k vv : List UInt8} {Ak Av : Option Addr} {cx : Array Value} {L : List NodeV} {u0 u1 u2 u3 u4 u5 : Value} (hbase : base ≤ w.heap.size) (hl : Pairs base w Lp l.length l) (ho : OwnN base B L v w) (hB : B ≤ w.heap.size) (hk : Keep No w W) (hx : Blk W xb 44 cx) (hxb : w.heap.size ≤ xb)
    (bk : BytesAt base W Ak k.length k) (bv : BytesAt base W Av vv.length vv) : GSt base B w v l Lp xb k vv Ak Av ((((((cx.setIfInBounds 0 u0).setIfInBounds 1 u1).setIfInBounds 2 u2).setIfInBounds 3 u3).setIfInBounds 4 u4).setIfInBounds 5 u5) L v
      ((((((W.setCell ⟨xb, 0, none⟩ u0).setCell ⟨xb, 1, none⟩ u1).setCell ⟨xb, 2, none⟩ u2).setCell ⟨xb, 3, none⟩ u3).setCell ⟨xb, 4, none⟩ u4).setCell ⟨xb, 5, none⟩ u5) := by
  have h0 : GSt base B w v l Lp xb k vv Ak Av cx L v W := ⟨hl.new_ hk, hx, OwnR.new_ ho hk (fun _ _ hx => hx.keep hk (fun _ x => x.elim)), bk, bv, hk.mono (fun _ x => x.elim), fun kk e => ⟨.inl e, fun e2 => by have := OwnR.lt_ ho e; omega⟩, hxb, Nat.le_trans hB hk.size⟩
  have hb : base ≤ xb := by omega
  exact (((((h0.set hb 0 u0).set hb 1 u1).set hb 2 u2).set hb 3 u3).set hb 4 u4).set hb 5 u5

set_option maxHeartbeats 4000000 in
set_option maxRecDepth 100000 in
theorem grow_cons {base B : Nat} {seed : Int} {w : World} {Lp : Option Addr} {m d : Nat} {L : List NodeV} {v : Value} {l : PairL} (hIH : GrowAll base B seed l.length) (hl : Pairs base w Lp m l) (hmd : m ≤ d) (hok : Okay l) (ho : OwnN base B L v w)
    (hbB : base ≤ B) (hB : B ≤ w.heap.size) (hsz : L.length + l.length ≤ 100000) (hne : l ≠ []) :
    Calls Try.prog 72 #[v, .int .u64 seed, .slice Lp m d] w (GrowRet base B seed L l v w) := by
  obtain ⟨i0, hi0, hz0, hz1, hz2⟩ := info_parts info_node
  obtain rfl := hl.len (by omega)
  have HT := Lib.hid (rtop_any seed Lp _ d l w hl hok.small (by omega))
  rw [topI_cons hne] at HT
  have hlt := top_lt (seed := seed) hne
  obtain ⟨ad, A1, c1, A2, c2, rfl, him, e0, e1, b1, b2⟩ := hl.at_ hlt
  have hkv := hok _ (List.getElem_mem hlt)
  have HBC := Lib.hid (build_cons (List.getElem?_eq_getElem hlt))
  have hab := him.lt
  obtain ⟨A0, n0, c0, rfl, hn0, hc0⟩ := ho.shape
  have H0 := Lib.hid (show _ ∧ _ ∧ _ from ⟨hl, ho, hB⟩)
  have HOK := Lib.hid hok
  have HIH := Lib.hid hIH
  have hn0' : n0 ≤ 100000 := by rw [hn0.out]; omega
  have hr1 : (0 : Int) ≤ (top seed l : Nat) := by omega
  have hr2 : ((top seed l : Nat) : Int) < (l.length : Nat) := by omega
  generalize l[top seed l] = p at *
  generalize top seed l = r at *
  have hk1 := hkv.1
  have hk2 := hkv.2.1
  have hk3 := hkv.2.2
  have HB := Lib.hid (show _ ∧ _ from ⟨b1, b2⟩)
  have hbw : base ≤ w.heap.size := Nat.le_trans hbB hB
  clear hl ho hok hIH hne hkv b1 b2 him hc0
  go_enter Try.func72, Try.ntmps72
  go_upto_region 5 with (go_at_call 97; refine HT.out.mono ?_; rintro e w' ⟨rfl, rfl⟩)
  go_cut [9] (fun s9 wx => ∃ (xb : Nat) (Ak : Option Addr) (ck : Nat) (Av : Option Addr) (cv : Nat), s9 = .pointer (some ⟨xb, 0, none⟩) ∧ p.1.length ≤ ck ∧ p.2.length ≤ cv ∧
    Hid (GSt base B w (.slice A0 n0 c0) l (some ad) xb p.1 p.2 Ak Av #[.slice Ak p.1.length ck, .slice Av p.2.length cv, .int .u64 0, .int .i64 (l.length : Nat), .int .i64 (-1), .int .i64 (-1)] L (.slice A0 n0 c0) wx))
  case first =>
    have hS0 : w.cell? (ad.add (r * 2)) = some (.slice A1 p.1.length c1) ∧ w.cell? ⟨(ad.add (r * 2)).block, (ad.add (r * 2)).off + 1, none⟩ = some (.slice A2 p.2.length c2) ∧ Keep No w w := ⟨e0, e1, Keep.refl No w⟩
    go_region_held3 (fun w' => w'.cell? (ad.add (r * 2)) = some (.slice A1 p.1.length c1) ∧ w'.cell? ⟨(ad.add (r * 2)).block, (ad.add (r * 2)).off + 1, none⟩ = some (.slice A2 p.2.length c2) ∧ Keep No w w')
      (first
        | (with_reducible exact HSv.out)
        | (refine grow_held hab HSv.out ?_; with_reducible refine Keep.alloc ?_ _; exact Keep.refl No _)
        | (with_reducible exact grow_held6 hab HSv.out hxg)
        | (refine grow_held hab hS0 ?_; with_reducible refine Keep.drew ?_; with_reducible exact Keep.refl No _)
        | (refine grow_held hab hS0 ?_; with_reducible refine Keep.drew ?_; with_reducible refine Keep.alloc ?_ _; with_reducible exact Keep.refl No _))
      (first
        | (go_at_call_of 42 (Value.slice A1 p.1.length c1); go_split_ands; refine (rcopy_any A1 _ c1 p.1 _ (HB.out.1.new_ (by with_reducible assumption)) (by omega)).mono ?_; rintro e w1 ⟨Ak, ck, rfl, hck, hownk0, hkd⟩; have hownk := ownsRow_weak (base' := w.heap.size) hownk0 (Keep.size (S := No) (by with_reducible assumption)); clear hownk0; have hkdk := hkd; (first | (have zb := Blk.keep (Blk.new _ 44 #[.slice none 0 0, .slice none 0 0, .int .u64 0, .int .i64 0, .int .i64 0, .int .i64 0]) hkd (fun x => x); have hxg := HSv.out.2.2.size) | (have zb := Blk.keep (Blk.drew (Blk.new _ 44 #[.slice none 0 0, .slice none 0 0, .int .u64 0, .int .i64 0, .int .i64 0, .int .i64 0])) hkd (fun x => x); have hxg := Nat.le_refl w.heap.size) | (with_reducible (have zb := blk_keepNo zb hkd)) | skip); have HSv := Lib.hid (grow_held hab ⟨by with_reducible assumption, by with_reducible assumption, by with_reducible assumption⟩ hkd); (try (have z0 := zb.cell 0; have z1 := zb.cell 1; have z2 := zb.cell 2; have z3 := zb.cell 3; have z4 := zb.cell 4; have z5 := zb.cell 5; have zf := zb.frozen; simp only [List.getElem?_toArray, List.getElem?_cons_zero, List.getElem?_cons_succ] at z0 z1 z2 z3 z4 z5)))
        | (go_at_call_of 42 (Value.slice A2 p.2.length c2); go_split_ands; refine (rcopy_any A2 _ c2 p.2 _ (HB.out.2.new_ (by with_reducible assumption)) (by omega)).mono ?_; rintro e w2 ⟨Av, cv, rfl, hcv, hownv0, hkd⟩; have hownv := ownsRow_weak (base' := w.heap.size) hownv0 (Keep.size (S := No) (by with_reducible assumption)); clear hownv0; have hkdv := hkd; (first | (have zb := Blk.keep (Blk.new _ 44 #[.slice none 0 0, .slice none 0 0, .int .u64 0, .int .i64 0, .int .i64 0, .int .i64 0]) hkd (fun x => x); have hxg := HSv.out.2.2.size) | (have zb := Blk.keep (Blk.drew (Blk.new _ 44 #[.slice none 0 0, .slice none 0 0, .int .u64 0, .int .i64 0, .int .i64 0, .int .i64 0])) hkd (fun x => x); have hxg := Nat.le_refl w.heap.size) | (with_reducible (have zb := blk_keepNo zb hkd)) | skip); have HSv := Lib.hid (grow_held hab ⟨by with_reducible assumption, by with_reducible assumption, by with_reducible assumption⟩ hkd); (try (have z0 := zb.cell 0; have z1 := zb.cell 1; have z2 := zb.cell 2; have z3 := zb.cell 3; have z4 := zb.cell 4; have z5 := zb.cell 5; have zf := zb.frozen; simp only [List.getElem?_toArray, List.getElem?_cons_zero, List.getElem?_cons_succ] at z0 z1 z2 z3 z4 z5))))
    all_goals
      go_wp2_with fail
      go_meet
      refine ⟨_, Ak, ck, Av, cv, rfl, hck, hcv, Lib.hid ?_⟩
      have bkF : BytesAt base w2 Ak p.1.length p.1 := by first | (with_reducible exact (BytesAt.of_own hownk hbw).new_ hkdv) | exact ((BytesAt.of_own hownk hbw).alloc _).new_ hkdv
      have bvF : BytesAt base w2 Av p.2.length p.2 := BytesAt.of_own hownv hbw
      first
        | (with_reducible exact grow_start H0.out.1 H0.out.2.1 H0.out.2.2 HSv.out.2.2 bkF bvF)
        | (have hh := grow_start2 (u0 := .slice Ak p.1.length ck) (u1 := .slice Av p.2.length cv) (u2 := .int .u64 0) (u3 := .int .i64 (l.length : Nat)) (u4 := .int .i64 (-1)) (u5 := .int .i64 (-1)) hbw H0.out.1 H0.out.2.1 H0.out.2.2 HSv.out.2.2 zb hxg bkF bvF
           simp only [List.setIfInBounds_toArray, List.set_cons_zero, List.set_cons_succ] at hh
           exact hh)
  case rest =>
    obtain ⟨xb, Ak, ck, Av, cv, rfl, hck, hcv, HX⟩ := hcut
    clear e0 e1
    have f0 := HX.out.blk.cell 0
    have f1 := HX.out.blk.cell 1
    have f2 := HX.out.blk.cell 2
    have f3 := HX.out.blk.cell 3
    have f4 := HX.out.blk.cell 4
    have f5 := HX.out.blk.cell 5
    simp only [List.getElem?_toArray, List.getElem?_cons_zero, List.getElem?_cons_succ] at f0 f1 f2 f3 f4 f5
    have HNR := Lib.hid (show NodeR base wc ⟨p.1, p.2, 0, l.length, -1, -1⟩ [.slice Ak p.1.length ck, .slice Av p.2.length cv, .int .u64 0, .int .i64 (l.length : Nat), .int .i64 (-1), .int .i64 (-1)] from ⟨Ak, ck, Av, cv, rfl, HX.out.bk, HX.out.bv, hck, hcv⟩)
    have hxw := HX.out.xge
    have hbx : base ≤ xb := Nat.le_trans hbw hxw
    go_upto_if 40 with (at_builtin; refine wpList_append_rec _ rfl (.tmp 35) (.tmp 37) _ rfl B 44 i0 _ 6 80 Try.underlying41 hi0 hz0 hz1 hz2 rfl (by omega) (NodeR.offs (base := base)) hbB (by decide) rfl L (.slice A0 n0 c0) rfl HX.out.own ⟨p.1, p.2, 0, l.length, -1, -1⟩ [.slice Ak p.1.length ck, .slice Av p.2.length cv, .int .u64 0, .int .i64 (l.length : Nat), .int .i64 (-1), .int .i64 (-1)] _ rfl (by rfl) HNR.out HNR.out.one (by simp only [maxLen]; omega) (by omega) HX.out.big ?_; intro v6 w6 O6 hk6 hat6; have G6 := Lib.hid (HX.out.row hbB hk6 O6 hat6); clear O6 hk6 hat6)
    clear f0 f1 f2 f3 f4 f5 HNR HX
    obtain ⟨A6, n6, c6, rfl, hn6, hc6⟩ := G6.out.own.shape
    obtain ⟨L1, hL1⟩ : ∃ L1, L1 = L ++ [(⟨p.1, p.2, 0, l.length, -1, -1⟩ : NodeV)] := ⟨_, rfl⟩
    rw [← hL1] at G6 hn6
    have hl1 : L1.length = L.length + 1 := by rw [hL1, List.length_append]; rfl
    have HL1 := Lib.hid (show _ ∧ _ from ⟨hL1, hl1⟩)
    clear hL1 hl1
    go_cut [0, 10] (fun s0 s10 wx => ∃ (A7 : Option Addr) (n7 c7 : Nat), s0 = .slice A7 n7 c7 ∧ s10 = .int .u64 ((build seed (l.take r)).sum seed) ∧ Hid (n7 = (L1 ++ (build seed (l.take r)).nodes seed L1.length).length) ∧
      Hid (GSt base B w (.slice A0 n0 c0) l (some ad) xb p.1 p.2 Ak Av #[.slice Ak p.1.length ck, .slice Av p.2.length cv, .int .u64 0, .int .i64 (l.length : Nat), .int .i64 ((build seed (l.take r)).at_ L1.length), .int .i64 (-1)] (L1 ++ (build seed (l.take r)).nodes seed L1.length) (.slice A7 n7 c7) wx))
    case first =>
      by_cases hc : 0 < r
      · have hne1 : l.take r ≠ [] := fun e => by have h := congrArg List.length e; rw [List.length_take, List.length_nil] at h; omega
        have q4 := G6.out.blk.cell 4
        simp only [List.getElem?_toArray, List.getElem?_cons_zero, List.getElem?_cons_succ] at q4
        have qf := G6.out.blk.frozen 4
        have hn6' : n6 ≤ 100001 := by have := hn6.out; have := HL1.out.2; omega
        have HAT := Lib.hid (at_some (seed := seed) (i := L1.length) hne1)
        have hcI : (0 : Int) < (r : Nat) := by omega
        go_wp2_with fail
        have G7 := G6.out.set hbx 4 (.int .i64 (n6 : Nat))
        refine (HIH.out (l.take r) (by rw [List.length_take]; omega) _ _ _ _ _ _ (pairs_take G7.pairs (by omega)) (by omega) (fun p hp => HOK.out p (List.mem_of_mem_take hp)) G7.own G7.big (by have := HL1.out.2; rw [List.length_take]; omega)).mono ?_
        intro e w8 hg
        obtain ⟨A8, n8, c8, rfl, hn8, G8⟩ := G7.back hbB hg
        have q4' := G8.out.blk.cell 4
        simp only [List.setIfInBounds_toArray, List.set_cons_zero, List.set_cons_succ, List.getElem?_toArray, List.getElem?_cons_zero, List.getElem?_cons_succ] at q4'
        obtain ⟨y, hy, hyd⟩ := head_at (seed := seed) (i := L1.length) L1 [] hne1
        rw [List.append_nil] at hy
        have hy2 : (L1 ++ (build seed (l.take r)).nodes seed L1.length)[n6]? = some y := by rw [hn6.out]; exact hy
        obtain ⟨ad8, B1, d1, B2, d2, rfl, him, g0, g1, g2, g3, g4, g5, b1, b2⟩ := NodesAt.at_ (base := base) (OwnR.recs G8.out.own rfl) hy2
        have h68 : n6 < n8 := by have := (List.getElem?_eq_some_iff.1 hy2).1; have := hn8.out; omega
        have j0 : (0 : Int) ≤ (n6 : Nat) := by omega
        have j1 : ((n6 : Nat) : Int) < (n8 : Nat) := by omega
        have HG := Lib.hid hyd
        clear hg G7 him g0 g1 g3 g4 g5 b1 b2 hy hy2 hyd q4 qf
        go_wp2_with fail
        go_meet
        refine ⟨_, n8, c8, rfl, by rw [HG.out], hn8, Lib.hid ?_⟩
        have e9 : (build seed (l.take r)).at_ L1.length = ((n6 : Nat) : Int) := by rw [HAT.out, hn6.out]
        rw [e9]
        exact G8.out
      · obtain rfl : r = 0 := by omega
        go_wp2_with fail
        go_meet
        have e0 : L1 ++ (build seed (l.take 0)).nodes seed L1.length = L1 := by rw [List.take_zero, build_nil, PT.nodes, List.append_nil]
        refine ⟨A6, n6, c6, rfl, rfl, ?_, ?_⟩
        · rw [e0]; exact hn6
        · rw [e0]; exact G6
    case rest =>
      obtain ⟨A7, n7, c7, rfl, rfl, hn7, G7⟩ := hcut
      clear hn6 hc6 G6
      obtain ⟨L2, hL2⟩ : ∃ L2, L2 = L1 ++ (build seed (l.take r)).nodes seed L1.length := ⟨_, rfl⟩
      rw [← hL2] at G7 hn7
      have hl2 : L2.length = L.length + 1 + r := by rw [hL2, List.length_append, nodes_length, build_size, HL1.out.2, List.length_take]; omega
      have HL2 := Lib.hid (show _ ∧ _ from ⟨hL2, hl2⟩)
      clear hL2 hl2
      have n1 : 0 ≤ (build seed (l.take r)).sum seed := digest_nonneg _ _
      have n2 : 0 ≤ (build seed (l.drop (r + 1))).sum seed := digest_nonneg _ _
      obtain ⟨s1, hs1⟩ : ∃ s1, (build seed (l.take r)).sum seed = s1 := ⟨_, rfl⟩
      obtain ⟨lI, hlI⟩ : ∃ lI, (build seed (l.take r)).at_ L1.length = lI := ⟨_, rfl⟩
      rw [hs1] at n1 ⊢
      rw [hlI] at G7
      have HS1 := Lib.hid (show _ ∧ _ from ⟨hs1, hlI⟩)
      clear hs1 hlI
      go_upto_if 60 with fail
      go_cut [0, 11] (fun s0 s11 wx => ∃ (A8 : Option Addr) (n8 c8 : Nat), s0 = .slice A8 n8 c8 ∧ s11 = .int .u64 ((build seed (l.drop (r + 1))).sum seed) ∧ Hid (n8 = (L2 ++ (build seed (l.drop (r + 1))).nodes seed L2.length).length) ∧
        Hid (GSt base B w (.slice A0 n0 c0) l (some ad) xb p.1 p.2 Ak Av #[.slice Ak p.1.length ck, .slice Av p.2.length cv, .int .u64 0, .int .i64 (l.length : Nat), .int .i64 lI, .int .i64 ((build seed (l.drop (r + 1))).at_ L2.length)] (L2 ++ (build seed (l.drop (r + 1))).nodes seed L2.length) (.slice A8 n8 c8) wx))
      case first =>
        by_cases hc : r + 1 < l.length
        · have hne1 : l.drop (r + 1) ≠ [] := fun e => by have h := congrArg List.length e; rw [List.length_drop, List.length_nil] at h; omega
          have q5 := G7.out.blk.cell 5
          simp only [List.getElem?_toArray, List.getElem?_cons_zero, List.getElem?_cons_succ] at q5
          have qf := G7.out.blk.frozen 5
          have hn7' : n7 ≤ 200001 := by have := hn7.out; have := HL2.out.2; omega
          have HAT := Lib.hid (at_some (seed := seed) (i := L2.length) hne1)
          have hcI : ((r : Nat) : Int) < (l.length : Nat) - 1 := by omega
          have hcJ : (0 : Int) ≤ (r : Nat) + 1 := by omega
          have hcK : ((r : Nat) : Int) + 1 ≤ (l.length : Nat) := by omega
          go_wp2_with fail
          have G8 := G7.out.set hbx 5 (.int .i64 (n7 : Nat))
          refine (HIH.out (l.drop (r + 1)) (by rw [List.length_drop]; omega) _ _ _ _ _ _ (pairs_drop_some G8.pairs hc) (by omega) (fun p hp => HOK.out p (List.mem_of_mem_drop hp)) G8.own G8.big (by have := HL2.out.2; rw [List.length_drop]; omega)).mono ?_
          intro e w8 hg
          obtain ⟨A8, n8, c8, rfl, hn8, G9⟩ := G8.back hbB hg
          have q5' := G9.out.blk.cell 5
          simp only [List.setIfInBounds_toArray, List.set_cons_zero, List.set_cons_succ, List.getElem?_toArray, List.getElem?_cons_zero, List.getElem?_cons_succ] at q5'
          obtain ⟨y, hy, hyd⟩ := head_at (seed := seed) (i := L2.length) L2 [] hne1
          rw [List.append_nil] at hy
          have hy2 : (L2 ++ (build seed (l.drop (r + 1))).nodes seed L2.length)[n7]? = some y := by rw [hn7.out]; exact hy
          obtain ⟨ad8, B1, d1, B2, d2, rfl, him, g0, g1, g2, g3, g4, g5, b1, b2⟩ := NodesAt.at_ (base := base) (OwnR.recs G9.out.own rfl) hy2
          have h68 : n7 < n8 := by have := (List.getElem?_eq_some_iff.1 hy2).1; have := hn8.out; omega
          have j0 : (0 : Int) ≤ (n7 : Nat) := by omega
          have j1 : ((n7 : Nat) : Int) < (n8 : Nat) := by omega
          have HG := Lib.hid hyd
          clear hg G8 him g0 g1 g3 g4 g5 b1 b2 hy hy2 hyd q5 qf
          go_wp2_with fail
          go_meet
          refine ⟨_, n8, c8, rfl, by rw [HG.out], hn8, Lib.hid ?_⟩
          have e9 : (build seed (l.drop (r + 1))).at_ L2.length = ((n7 : Nat) : Int) := by rw [HAT.out, hn7.out]
          rw [e9]
          exact G9.out
        · have hdr : l.drop (r + 1) = [] := List.drop_of_length_le (by omega)
          have e0 : L2 ++ (build seed (l.drop (r + 1))).nodes seed L2.length = L2 := by rw [hdr, build_nil, PT.nodes, List.append_nil]
          have e1 : (build seed (l.drop (r + 1))).at_ L2.length = -1 := by rw [hdr]; rfl
          have e2 : (build seed (l.drop (r + 1))).sum seed = 0 := by rw [hdr]; rfl
          have HE := Lib.hid (show _ ∧ _ ∧ _ from ⟨e0, e1, e2⟩)
          have hcI : ¬ ((r : Nat) : Int) < (l.length : Nat) - 1 := by omega
          clear hdr e0 e1 e2
          go_wp2_with fail
          go_meet
          refine ⟨A7, n7, c7, rfl, by rw [HE.out.2.2], ?_, ?_⟩
          · rw [HE.out.1]; exact hn7
          · rw [HE.out.1, HE.out.2.1]; exact G7
      case rest =>
        obtain ⟨A8, n8, c8, rfl, rfl, hn8, G8⟩ := hcut
        clear hn7 G7
        obtain ⟨s2, hs2⟩ : ∃ s2, (build seed (l.drop (r + 1))).sum seed = s2 := ⟨_, rfl⟩
        obtain ⟨rI, hrI⟩ : ∃ rI, (build seed (l.drop (r + 1))).at_ L2.length = rI := ⟨_, rfl⟩
        rw [hs2] at n2 ⊢
        rw [hrI] at G8
        have HS2 := Lib.hid (show _ ∧ _ from ⟨hs2, hrI⟩)
        clear hs2 hrI
        have q0 := G8.out.blk.cell 0
        have q1 := G8.out.blk.cell 1
        simp only [List.getElem?_toArray, List.getElem?_cons_zero, List.getElem?_cons_succ] at q0 q1
        go_wp2_with fail
        refine (rmark_any seed s1 s2 Ak Av _ ck _ cv p.1 p.2 _ G8.out.bk.1 G8.out.bv.1 (by omega) (by omega) n1 n2).mono ?_
        rintro e w9 ⟨rfl, hk9⟩
        have G9 := G8.out.new_ hk9
        have hmk := Lib.hid (show mark seed s1 p.1 p.2 s2 = mark seed s1 p.1 p.2 s2 from rfl)
        have G10 := G9.set hbx 2 (.int .u64 (mark seed s1 p.1 p.2 s2))
        simp only [List.setIfInBounds_toArray, List.set_cons_zero, List.set_cons_succ] at G10
        obtain ⟨L3, hL3⟩ : ∃ L3, L3 = L2 ++ (build seed (l.drop (r + 1))).nodes seed L2.length := ⟨_, rfl⟩
        have hL4 : L3 = L ++ (⟨p.1, p.2, 0, l.length, -1, -1⟩ : NodeV) :: ((build seed (l.take r)).nodes seed L1.length ++ (build seed (l.drop (r + 1))).nodes seed L2.length) := by
          rw [hL3, HL2.out.1, HL1.out.1]; simp
        have hfin : L ++ (build seed l).nodes seed L.length = L ++ (⟨p.1, p.2, mark seed s1 p.1 p.2 s2, l.length, lI, rI⟩ : NodeV) :: ((build seed (l.take r)).nodes seed L1.length ++ (build seed (l.drop (r + 1))).nodes seed L2.length) := by
          rw [HBC.out, PT.nodes, HS1.out.1, HS2.out.1]
          have h1 := HL1.out.2
          have h2 := HL2.out.2
          have h3 : (build seed (l.take r)).size = r := by rw [build_size, List.length_take]; omega
          have h4 : (build seed (l.drop (r + 1))).size = l.length - (r + 1) := by rw [build_size, List.length_drop]
          rw [h3, h4, ← h1, show L1.length + r = L2.length by omega, HS1.out.2, HS2.out.2, show 1 + r + (l.length - (r + 1)) = l.length by omega]
        rw [← hL3, hL4] at G10
        have hNR : NodeR base (w9.setCell ⟨xb, 2, none⟩ (.int .u64 (mark seed s1 p.1 p.2 s2))) ⟨p.1, p.2, mark seed s1 p.1 p.2 s2, l.length, lI, rI⟩ [.slice Ak p.1.length ck, .slice Av p.2.length cv, .int .u64 (mark seed s1 p.1 p.2 s2), .int .i64 (l.length : Nat), .int .i64 lI, .int .i64 rI] := ⟨Ak, ck, Av, cv, rfl, G10.bk, G10.bv, hck, hcv⟩
        obtain ⟨g, a0, a1, a2, a3, a4, a5, rfl, m0, m1, m2, m3, m4, m5, mf, hown⟩ := OwnN.set6 G10.own hbB hNR
        have hgx : g ≠ xb := (G10.from_ g rfl).2
        have hgf := (G10.from_ g rfl).1
        have K6 : Keep (fun b => b = g) (w9.setCell ⟨xb, 2, none⟩ (.int .u64 (mark seed s1 p.1 p.2 s2))) _ := Keep.set6 (k := L.length * 6) (u0 := .slice Ak p.1.length ck) (u1 := .slice Av p.2.length cv) (u2 := .int .u64 (mark seed s1 p.1 p.2 s2)) (u3 := .int .i64 (l.length : Nat)) (u4 := .int .i64 lI) (u5 := .int .i64 rI)
        have HF := Lib.hid (show _ ∧ _ ∧ _ ∧ _ from ⟨hown, G10.keep.trans K6 (fun x e => by rw [show x = g from e]; exact hgf), hfin, G10.from_⟩)
        rw [← hn0.out] at m0 m1 m2 m3 m4 m5
        have x2 := G9.blk.cell 2
        have xf := G9.blk.frozen 2
        have x0 := G9.blk.cell 0
        have x1 := G9.blk.cell 1
        have x3 := G9.blk.cell 3
        have x4 := G9.blk.cell 4
        have x5 := G9.blk.cell 5
        simp only [List.getElem?_toArray, List.getElem?_cons_zero, List.getElem?_cons_succ] at x0 x1 x2 x3 x4 x5
        have h08 : n0 < n8 := by have h1 := hn8.out; have h2 := hn0.out; rw [← hL3, hL4, List.length_append, List.length_cons] at h1; omega
        have j0 : (0 : Int) ≤ (n0 : Nat) := by omega
        have j1 : ((n0 : Nat) : Int) < (n8 : Nat) := by omega
        have hn8b := hn8.out
        rw [← hL3, hL4] at hn8b
        have HN8 := Lib.hid hn8b
        clear hn8b G9 G10 hNR hown K6 hL3 hL4 hfin q0 q1 hk9 hmk
        generalize mark seed s1 p.1 p.2 s2 = mk at *
        go_wp2_with fail
        go_ret
        obtain ⟨hown, hkk, hfin, hfr⟩ := HF.out
        have h8 := HN8.out
        rw [List.length_append, List.length_cons] at h8
        unfold GrowRet
        rw [hfin, List.length_append, List.length_cons, ← h8]
        rw [← hn0.out] at hown hkk
        exact ⟨some ⟨g, 0, none⟩, c8, rfl, hown, hkk, fun k e => (hfr k e).1⟩

end Go.Proofs.Ytdmckjojeddaaaa

namespace Go.Proofs.Ytdmckjojeddaaaa
open Go.RowKit Go.Proofs.YtdmckjojeddaaaaKit Go.Proofs.YtdmckjojeddaaaaPlain

theorem grow_all {base B : Nat} (seed : Int) (hbB : base ≤ B) : ∀ N, GrowAll base B seed N := by
  intro N
  induction N with
  | zero => intro l' h; exact absurd h (Nat.not_lt_zero _)
  | succ N ih =>
    intro l' hl w Lp m d L v hp hmd hok ho hB hsz
    by_cases hne : l' = []
    · subst hne
      exact grow_nil hp ho
    · exact grow_cons (fun l2 h2 => ih l2 (by omega)) hp hmd hok ho hbB hB hsz hne

set_option maxHeartbeats 1000000 in
set_option maxRecDepth 100000 in
theorem rnodes_any {base : Nat} {w : World} {seed : Int} {Lp : Option Addr} {m d : Nat} {l : PairL} (hl : Pairs base w Lp m l) (hmd : m ≤ d) (hok : Okay l) (hsz : l.length ≤ 50000) (hb : base ≤ w.heap.size) :
    Calls Try.prog 33 #[.int .u64 seed, .slice Lp m d] w (RecsRet (NodeR base) 44 6 w (nodesL seed l)) := by
  have hG : Calls Try.prog 72 #[.slice none 0 0, .int .u64 seed, .slice Lp m d] w (RecsRet (NodeR base) 44 6 w (nodesL seed l)) :=
    (grow_all (base := base) seed hb (l.length + 1) l (by omega) w Lp m d [] (.slice none 0 0) hl hmd hok OwnR.start (Nat.le_refl _) (by simp; omega)).mono (fun e w' h => by
      obtain ⟨A, c, e1, ho, hk, _⟩ := h
      obtain ⟨_, _, _, e2, _, hc⟩ := ho.shape
      injection e2 with _ e2 e3
      exact ⟨A, c, e1, by rw [← e2, ← e3] at hc; exact hc, ho, hk.mono (fun _ e => by cases e)⟩)
  have HG := Lib.hid hG
  clear hl hok hG
  generalize nodesL seed l = N at *
  go_enter Try.func33, Try.ntmps33
  go_wp2_with fail
  refine HG.out.mono ?_
  rintro e w' ⟨A, c, rfl, hc, ho, hk⟩
  have HO := Lib.hid (show _ ∧ _ from ⟨ho, hk⟩)
  clear ho hk HG
  go_wp2
  go_ret
  exact ⟨A, c, rfl, hc, HO.out.1, HO.out.2⟩

set_option maxHeartbeats 1000000 in
set_option maxRecDepth 100000 in
theorem rdigest_any {base : Nat} {w : World} {seed : Int} {Lp : Option Addr} {m d : Nat} {l : PairL} (hl : Pairs base w Lp m l) (hmd : m ≤ d) (hok : Okay l) (hsz : l.length ≤ 50000) (hb : base ≤ w.heap.size) :
    Calls Try.prog 77 #[.int .u64 seed, .slice Lp m d] w fun e w' => e = .returned (.int .u64 (digest seed l)) ∧ Keep No w w' := by
  have HN := Lib.hid (rnodes_any (seed := seed) hl hmd hok hsz hb)
  have hlen := nodesL_length seed l
  have HD := Lib.hid (fun x (h : (nodesL seed l)[0]? = some x) => (size_head h).2)
  have h00 : l = [] → digest seed l = 0 := by rintro rfl; rfl
  by_cases h0 : l = []
  · have hd := Lib.hid (h00 h0)
    subst h0
    clear hl hok h00 hlen HD
    go_enter Try.func77, Try.ntmps77
    go_wp2_with fail
    refine HN.out.mono ?_
    rintro e w' ⟨A, c, rfl, hc, ho, hk⟩
    have HK := Lib.hid hk
    have e0 : (nodesL seed []).length = 0 := nodesL_length seed []
    rw [e0]
    clear ho hk e0
    go_wp2
    go_ret
    rw [hd.out]
    exact ⟨rfl, HK.out⟩
  · have hpos : 0 < l.length := List.length_pos_iff.2 h0
    obtain ⟨x, hx⟩ : ∃ x, (nodesL seed l)[0]? = some x := ⟨_, List.getElem?_eq_getElem (by rw [hlen]; exact hpos)⟩
    have hd := HD.out x hx
    rw [hd]
    rw [← hlen] at hpos
    generalize nodesL seed l = N at *
    have HX := Lib.hid hx
    clear hl hok h00 hlen HD hd hx h0
    go_enter Try.func77, Try.ntmps77
    go_wp2_with fail
    refine HN.out.mono ?_
    rintro e w' ⟨A, c, rfl, hc, ho, hk⟩
    obtain ⟨ad, A1, c1, A2, c2, rfl, him, e0, e1, e2, e3, e4, e5, b1, b2⟩ := NodesAt.at_ (base := base) (OwnR.recs ho rfl) HX.out
    rw [show ad.add (0 * 6) = ad from by simp [Addr.add]] at e2
    have HK := Lib.hid hk
    have q0 : (((N.length : Nat) : Int) == 0) = false := beq_eq_false_iff_ne.2 (by omega)
    clear ho hk him e0 e1 e3 e4 e5 b1 b2 hc
    generalize N.length = n at *
    go_wp2
    go_ret
    exact ⟨rfl, HK.out⟩
end Go.Proofs.Ytdmckjojeddaaaa
