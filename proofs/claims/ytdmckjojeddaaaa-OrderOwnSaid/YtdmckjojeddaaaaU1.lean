/- Contracts of order's pair, Nodes$1, gather, Nodes. Conditions: each names its own. -/
import Derived.Test.YtdmckjojeddaaaaT9
namespace Go.Proofs.Ytdmckjojeddaaaa
open Go.RowKit Go.Proofs.YtdmckjojeddaaaaKit Go.Proofs.YtdmckjojeddaaaaPlain

/-- Two rows of bytes that the call has made, in blocks of their own. -/
def Twin (w : World) (k v : List UInt8) (A B : Option Addr) (c d : Nat) (w' : World) : Prop :=
  w'.ownsRow w.heap.size 5 1 (.slice A k.length c) k.length (byteVs k) ∧ w'.ownsRow w.heap.size 5 1 (.slice B v.length d) v.length (byteVs v) ∧
  (∀ x, (Value.slice A k.length c).ownBlock = some x → (Value.slice B v.length d).ownBlock ≠ some x) ∧ k.length ≤ c ∧ v.length ≤ d ∧ Keep No w w'

theorem twin_end {w W0 W1 W2 W3 : World} {k v : List UInt8} {A B : Option Addr} {c d : Nat} (h0 : w.heap.size < W0.heap.size) (h1 : W1.ownsRow W0.heap.size 5 1 (.slice A k.length c) k.length (byteVs k)) (hk : Keep No W1 W2)
    (h2 : W2.ownsRow W1.heap.size 5 1 (.slice B v.length d) v.length (byteVs v)) (h01 : W0.heap.size ≤ W1.heap.size) (h3 : Keep (fun b => b = w.heap.size) W2 W3) (hc : k.length ≤ c) (hd : v.length ≤ d) (hw : Keep No w W3) : Twin w k v A B c d W3 := by
  refine ⟨ownsRow_weak (own_keep (own_keep h1 hk (fun _ _ x => x)) h3 (fun x e hx => ?_)) (Nat.le_of_lt h0), ownsRow_weak (own_keep h2 h3 (fun x e hx => ?_)) (by omega), fun x e e2 => ?_, hc, hd, hw⟩
  · have := (World.ownsRow.lt h1 x e).1; omega
  · have := (World.ownsRow.lt h2 x e).1; omega
  · have := (World.ownsRow.lt h1 x e).2; have := (World.ownsRow.lt h2 x e2).1; omega
theorem Twin.swap {w W3 : World} {k v : List UInt8} {A B : Option Addr} {c d : Nat} (h : Twin w k v A B c d W3) : Twin w v k B A d c W3 :=
  ⟨h.2.1, h.1, fun x e e2 => h.2.2.1 x e2 e, h.2.2.2.2.1, h.2.2.2.1, h.2.2.2.2.2⟩
theorem info_size_pair : (Try.prog.info? 82).map (·.size) = some 2 := by kernel_rfl
theorem size_alloc_lt (w : World) (o : Obj) : w.heap.size < (w.alloc o).drew.heap.size := by show w.heap.size < (w.alloc o).heap.size; simp

set_option maxHeartbeats 2000000 in
set_option maxRecDepth 100000 in
theorem pair_any {base : Nat} {w : World} {seed : Int} {b : Nat} {k v : List UInt8} {lp rp : Option Addr} {sz dg : Int} (h : Node base w seed b k v lp rp sz dg) :
    Calls Try.prog 67 #[.pointer (some ⟨b, 0, none⟩)] w fun e w' =>
      ∃ A c B d, e = .returned (.agg #[.slice A k.length c, .slice B v.length d]) ∧ Twin w k v A B c d w' := by
  obtain ⟨A, c, B, d, hA, hB, c0, c1, _⟩ := h.cells
  have hbl := h.lt
  have hkv := h.2.1
  have hk2 := hkv.2.1
  have hv2 := hkv.2.2
  have HA := Lib.hid hA
  have HB := Lib.hid hB
  have hbn : b ≠ w.heap.size := by omega
  clear h hA hB hkv
  go_enter Try.func67, Try.ntmps67
  go_wp2_with fail
  have S0 : Blk (w.alloc (.cells #[.slice none 0 0, .slice none 0 0] 82)).drew w.heap.size 82 #[.slice none 0 0, .slice none 0 0] := Blk.new _ _ _
  go_region_held3 (fun w' => w'.cell? ⟨b, 0, none⟩ = some (.slice A k.length c) ∧ w'.cell? ⟨b, 1, none⟩ = some (.slice B v.length d) ∧ (∃ x0 x1, Blk w' w.heap.size 82 #[x0, x1]) ∧ Keep No w w' ∧ w.heap.size < w'.heap.size)
    (first
      | exact ⟨(World.cell?_alloc_lt _ _ _ hbl).trans c0, (World.cell?_alloc_lt _ _ _ hbl).trans c1, ⟨_, _, S0⟩, ((Keep.refl No w).alloc _).drew, size_alloc_lt _ _⟩
      | (go_split_ands; exact ⟨(hkd.cell (p := ⟨b, 0, none⟩) (Nat.lt_trans hbl (by assumption)) (fun x => x)).trans (by assumption), (hkd.cell (p := ⟨b, 1, none⟩) (Nat.lt_trans hbl (by assumption)) (fun x => x)).trans (by assumption), ⟨_, _, hB1⟩, Keep.trans (by assumption) hkd (fun _ x => x.elim), Nat.lt_of_lt_of_le (by assumption) hkd.size⟩)
      | (go_split_ands; obtain ⟨x0, x1, hB9⟩ := ‹∃ x0 x1, Blk _ _ _ #[x0, x1]›; exact ⟨(far_block _ _ _ _ hbn).trans ((far_block _ _ _ _ hbn).trans (by assumption)), (far_block _ _ _ _ hbn).trans ((far_block _ _ _ _ hbn).trans (by assumption)), ⟨Value.slice Ak k.length ck, Value.slice Av v.length cv, (hB9.set_ 0 _).set_ 1 _⟩, Keep.setCell (Keep.setCell (by assumption) (.inr (Nat.le_refl _)) _) (.inr (Nat.le_refl _)) _, by simpa [World.setCell]⟩)
      | go_keep)
    (first
      | (go_at_call_of 62 (Value.slice A k.length c); go_split_ands; refine (bclone A _ c k _ (HA.out.new_ (by assumption)) (by omega)).mono ?_; rintro e w1 ⟨Ak, ck, rfl, hck, hownk, hkd⟩; obtain ⟨x0, x1, hB0⟩ := ‹∃ x0 x1, Blk _ _ _ #[x0, x1]›; have hB1 := hB0.keep hkd (fun x => x); have g0 := hB1.cell 0; have g1 := hB1.cell 1; have f0 := hB1.frozen 0; have f1 := hB1.frozen 1)
      | (go_at_call_of 62 (Value.slice B v.length d); go_split_ands; refine (bclone B _ d v _ (HB.out.new_ (by assumption)) (by omega)).mono ?_; rintro e w2 ⟨Av, cv, rfl, hcv, hownv, hkd⟩; obtain ⟨x0, x1, hB0⟩ := ‹∃ x0 x1, Blk _ _ _ #[x0, x1]›; have hB1 := hB0.keep hkd (fun x => x); have g0 := hB1.cell 0; have g1 := hB1.cell 1; have f0 := hB1.frozen 0; have f1 := hB1.frozen 1))
  all_goals
    go_wp2
    (try simp only [Exit.inBlock, Exit.then])
    first
      | (obtain ⟨y0, y1, hb9⟩ : ∃ y0 y1, Blk w2 w.heap.size 82 #[y0, y1] := ⟨_, _, by assumption⟩; refine bodyPost_ret (results_cell_row rfl _ (w2.setCell _ _ |>.setCell _ _) w.heap.size 82 #[.slice Ak k.length ck, .slice Av v.length cv] (0, 0) _ rfl ((hb9.set_ 0 _).set_ 1 _) Try.underlying82 rfl info_size_pair) rfl ?_)
      | (obtain ⟨y0, y1, hb9⟩ : ∃ y0 y1, Blk w1 w.heap.size 82 #[y0, y1] := ⟨_, _, by assumption⟩; refine bodyPost_ret (results_cell_row rfl _ (w1.setCell _ _ |>.setCell _ _) w.heap.size 82 #[.slice Ak k.length ck, .slice Av v.length cv] (0, 0) _ rfl ((hb9.set_ 0 _).set_ 1 _) Try.underlying82 rfl info_size_pair) rfl ?_)
    refine ⟨_, _, _, _, rfl, ?_⟩
  all_goals exact twin_end (size_alloc_lt _ _) hownk hkd hownv (Keep.size (by assumption)) (((Keep.refl (fun b => b = w.heap.size) w2).setCell (p := ⟨w.heap.size, 0, none⟩) (.inl rfl) _).setCell (p := ⟨w.heap.size, 1, none⟩) (.inl rfl) _) hck hcv (by go_split_ands; assumption)

end Go.Proofs.Ytdmckjojeddaaaa

namespace Go.Proofs.Ytdmckjojeddaaaa
open Go.RowKit Go.Proofs.YtdmckjojeddaaaaKit Go.Proofs.YtdmckjojeddaaaaPlain

/-- What is behind a call that wrote the captured counter alone. -/
def Twin1 (S : Nat → Prop) (w : World) (k v : List UInt8) (A B : Option Addr) (c d : Nat) (w' : World) : Prop :=
  w'.ownsRow w.heap.size 5 1 (.slice A k.length c) k.length (byteVs k) ∧ w'.ownsRow w.heap.size 5 1 (.slice B v.length d) v.length (byteVs v) ∧
  (∀ x, (Value.slice A k.length c).ownBlock = some x → (Value.slice B v.length d).ownBlock ≠ some x) ∧ k.length ≤ c ∧ v.length ≤ d ∧ Keep S w w'

theorem Node.off {base : Nat} {w w1 : World} {seed : Int} {b : Nat} {k v : List UInt8} {lp rp : Option Addr} {sz dg : Int} {S : Nat → Prop} (h : Node base w seed b k v lp rp sz dg) (hk : Keep S w w1) (hs : Off base 5 w S) (hn : ¬ S b) : Node base w1 seed b k v lp rp sz dg := by
  obtain ⟨h1, h2, A, c, B, d, hb, hk1, hv1⟩ := h
  exact ⟨h1, h2, A, c, B, d, hb.keep hk hn, hk1.off hk hs, hv1.off hk hs⟩
theorem Rep.off {base : Nat} {w w1 : World} {seed : Int} {S : Nat → Prop} : ∀ {t : AT}, Rep base w seed t → Keep S w w1 → Off base 5 w S → (∀ b ∈ t.blocks, ¬ S b) → Rep base w1 seed t
  | .nil, _, _, _, _ => trivial
  | .node b0 k v l r, h, hk, hs, hn => ⟨h.1.off hk hs (hn b0 (by simp [AT.blocks])), Rep.off h.2.1 hk hs (fun b hb => hn b (by simp [AT.blocks, hb])), Rep.off h.2.2 hk hs (fun b hb => hn b (by simp [AT.blocks, hb]))⟩
theorem Rep.blk_off {base : Nat} {w w1 : World} {seed : Int} {t : AT} {ab : Nat} {T : TypeId} {cs : Array Value} (h : Rep base w seed t) (hc : Blk w ab T cs) (hb : base ≤ ab) (hk : Keep (Only ab) w w1) (hT : T ≠ 5) (hm : mutTy T = false) : Rep base w1 seed t :=
  h.off hk (fun x e => by rw [show x = ab from e]; exact ⟨hb, _, _, _, hc, hT⟩) (fun x hx e => by
    obtain ⟨_, cs', ty, f, e1, e2⟩ := h.mut x hx
    rw [show x = ab from e] at e1
    have e3 := hc.symm.trans e1
    injection e3 with e3
    injection e3 with _ e3
    subst e3
    rw [hm] at e2; cases e2)
theorem Rep.int_off {base : Nat} {w w1 : World} {seed : Int} {t : AT} {ab : Nat} {cs : Array Value} (h : Rep base w seed t) (hc : Blk w ab 3 cs) (hb : base ≤ ab) (hk : Keep (Only ab) w w1) : Rep base w1 seed t := h.blk_off hc hb hk (by decide) rfl

/-- Where a child stands in the list: -1 if there is none. -/
def childAt (p : Option Addr) (x : Int) : Int := if p = none then -1 else x
theorem childAt_none (x : Int) : childAt none x = -1 := rfl
theorem childAt_some (a : Addr) (x : Int) : childAt (some a) x = x := rfl
theorem twin1_end {w W2 w3 W : World} {k v : List UInt8} {A B : Option Addr} {c d ab : Nat} (tw : Twin W2 k v A B c d w3) (K2 : Keep (Only ab) w W2) (hz : W2.heap.size = w.heap.size + 1)
    (K : Keep (fun x => x = w.heap.size ∨ w3.heap.size ≤ x) w3 W) : Twin1 (Only ab) w k v A B c d W := by
  obtain ⟨h1, h2, h3, h4, h5, h6⟩ := tw
  have hz3 := h6.size
  refine ⟨ownsRow_weak (own_keep h1 K (fun x e hx => ?_)) (by omega), ownsRow_weak (own_keep h2 K (fun x e hx => ?_)) (by omega), h3, h4, h5, (K2.trans h6 (fun _ x => x.elim)).trans K (fun x hx => .inr ?_)⟩
  · have := World.ownsRow.lt h1 x e; omega
  · have := World.ownsRow.lt h2 x e; omega
  · rcases hx with hx | hx <;> omega
theorem info_size_node : (Try.prog.info? 44).map (·.size) = some 6 := by kernel_rfl

theorem size_alloc2_lt (w : World) (o o' : Obj) : w.heap.size < ((w.alloc o).alloc o').drew.heap.size := by show w.heap.size < ((w.alloc o).alloc o').heap.size; simp; omega
theorem setCell_size (w : World) (p : Addr) (v : Value) : (w.setCell p v).heap.size = w.heap.size := by simp [World.setCell]

set_option maxHeartbeats 4000000 in
set_option maxRecDepth 100000 in
theorem nodes1_any {base : Nat} {w : World} {seed at_ : Int} {b ab : Nat} {k v : List UInt8} {l r : AT} (h : Rep base w seed (.node b k v l r)) (hc : Blk w ab 3 #[.int .i64 at_]) (hba : base ≤ ab)
    (h1 : -1 ≤ at_) (h2 : at_ ≤ 1000000) (hl : l.size ≤ 1000000) :
    Calls Try.prog 66 #[.pointer (some ⟨b, 0, none⟩), .pointer (some ⟨ab, 0, none⟩)] w fun e w' =>
      ∃ A c B d, e = .returned (.agg #[.slice A k.length c, .slice B v.length d, .int .u64 ((AT.node b k v l r).sum seed), .int .i64 ((AT.node b k v l r).size : Nat), .int .i64 (childAt l.ptr (at_ + 1 + 1)), .int .i64 (childAt r.ptr (at_ + 1 + 1 + (l.size : Nat)))]) ∧
        Twin1 (Only ab) w k v A B c d w' ∧ Blk w' ab 3 #[.int .i64 (at_ + 1)] := by
  have hbl := h.root.lt
  have hal := hc.lt
  have a0 := hc.cell 0
  have a1 := hc.frozen 0
  obtain ⟨W2, hW2⟩ : ∃ W2, W2 = (w.setCell ⟨ab, 0, none⟩ (.int .i64 (at_ + 1))).alloc (.cells #[.slice none 0 0, .slice none 0 0, .int .u64 0, .int .i64 0, .int .i64 0, .int .i64 0] 44) := ⟨_, rfl⟩
  have K2 : Keep (Only ab) w W2 := hW2 ▸ ((Keep.refl (Only ab) w).setCell (p := ⟨ab, 0, none⟩) (.inl rfl) _).alloc _
  have R2 := h.int_off hc hba K2
  have C2 : Blk W2 ab 3 #[.int .i64 (at_ + 1)] := hW2 ▸ (hc.set_ 0 _).alloc _
  have Z2 : Blk W2 w.heap.size 44 #[.slice none 0 0, .slice none 0 0, .int .u64 0, .int .i64 0, .int .i64 0, .int .i64 0] := by
    have := Blk.new (w.setCell ⟨ab, 0, none⟩ (.int .i64 (at_ + 1))) 44 #[.slice none 0 0, .slice none 0 0, .int .u64 0, .int .i64 0, .int .i64 0, .int .i64 0]
    rw [setCell_size, ← hW2] at this
    exact this
  have hz2 : W2.heap.size = w.heap.size + 1 := by rw [hW2, ← setCell_size w ⟨ab, 0, none⟩ (.int .i64 (at_ + 1))]; simp
  have HP := Lib.hid (pair_any R2.root)
  have H2 := Lib.hid (show _ ∧ _ ∧ _ ∧ _ ∧ _ from ⟨K2, R2, C2, Z2, hz2⟩)
  have HW := Lib.hid hW2
  clear h hc hW2 K2 R2 C2 Z2 hz2
  go_enter Try.func66, Try.ntmps66
  go_wp2_with fail
  rw [← HW.out]
  refine HP.out.mono ?_
  rintro e w3 ⟨A, c, B, d, rfl, tw⟩
  obtain ⟨K2, R2, C2, Z2, hz2⟩ := H2.out
  have kp := tw.2.2.2.2.2
  have R3 := R2.new_ kp
  have C3 := C2.keep kp (fun x => x)
  have Z3 := Z2.keep kp (fun x => x)
  have hz3 := kp.size
  obtain ⟨A9, c9, B9, d9, _, _, _, _, _, n3, n4, n5, n6⟩ := R3.root.cells
  have hbl3 := R3.root.lt
  have H3 := Lib.hid (show _ ∧ _ ∧ _ ∧ _ ∧ _ ∧ _ ∧ _ from ⟨K2, hz2, tw, R3, C3, Z3, hz3⟩)
  clear HP H2 HW K2 R2 C2 Z2 hz2 tw kp R3 C3 Z3 hz3 a0 a1
  go_wp2_with fail
  go_region_held3 (fun w' => w'.cell? ⟨b, 6, none⟩ = some (.int .u64 ((AT.node b k v l r).sum seed)) ∧ w'.cell? ⟨b, 5, none⟩ = some (.int .i64 ((AT.node b k v l r).size : Nat)) ∧ w'.cell? ⟨w3.heap.size, 0, none⟩ = some (.slice A k.length c) ∧ w'.cell? ⟨w3.heap.size, 1, none⟩ = some (.slice B v.length d)
      )
    (first
      | exact ⟨(World.cell?_alloc_lt _ _ _ hbl3).trans n6, (World.cell?_alloc_lt _ _ _ hbl3).trans n5, World.cell?_alloc_at _ _ _ _ rfl, World.cell?_alloc_at _ _ _ _ rfl⟩
      | go_keep)
    (fail)
  obtain ⟨K2, hz2, tw, R3, C3, Z3, hz3⟩ := H3.out
  have K4 : Keep No w3 (((w3.alloc (.cells #[.slice A k.length c, .slice B v.length d] 82)).alloc (.cells #[.slice A k.length c, .slice B v.length d, .int .u64 ((AT.node b k v l r).sum seed), .int .i64 ((AT.node b k v l r).size : Nat), .int .i64 (-1), .int .i64 (-1)] 44)).drew) := (((Keep.refl No w3).alloc _).alloc _).drew
  have T4 : Blk (((w3.alloc (.cells #[.slice A k.length c, .slice B v.length d] 82)).alloc (.cells #[.slice A k.length c, .slice B v.length d, .int .u64 ((AT.node b k v l r).sum seed), .int .i64 ((AT.node b k v l r).size : Nat), .int .i64 (-1), .int .i64 (-1)] 44)).drew) (w3.heap.size + 1) 44 #[.slice A k.length c, .slice B v.length d, .int .u64 ((AT.node b k v l r).sum seed), .int .i64 ((AT.node b k v l r).size : Nat), .int .i64 (-1), .int .i64 (-1)] := by
    have := Blk.new (w3.alloc (.cells #[.slice A k.length c, .slice B v.length d] 82)) 44 #[.slice A k.length c, .slice B v.length d, .int .u64 ((AT.node b k v l r).sum seed), .int .i64 ((AT.node b k v l r).size : Nat), .int .i64 (-1), .int .i64 (-1)]
    rw [show (w3.alloc (.cells #[.slice A k.length c, .slice B v.length d] 82)).heap.size = w3.heap.size + 1 from by simp] at this
    exact this
  generalize (((w3.alloc (.cells #[.slice A k.length c, .slice B v.length d] 82)).alloc (.cells #[.slice A k.length c, .slice B v.length d, .int .u64 ((AT.node b k v l r).sum seed), .int .i64 ((AT.node b k v l r).size : Nat), .int .i64 (-1), .int .i64 (-1)] 44)).drew) = w4 at *
  have hab3 := C3.lt
  have hnb3 := Z3.lt
  have R4 := R3.new_ K4
  have C4 := C3.keep K4 (fun x => x)
  have Z4 := Z3.keep K4 (fun x => x)
  have hbase4 : base ≤ w3.heap.size + 1 := by omega
  have hbt : b ≠ w3.heap.size + 1 := by omega
  have hat : ab ≠ w3.heap.size + 1 := by omega
  have hnt : w.heap.size ≠ w3.heap.size + 1 := by omega
  have han : ab ≠ w.heap.size := by omega
  have htb : w3.heap.size ≤ w3.heap.size + 1 := by omega
  have hLC := Lib.hid (fun (W : World) (h : Rep base W seed l) => count_any (h.new_ ((Keep.refl No W).drew)))
  generalize w3.heap.size + 1 = tb at *
  obtain ⟨m3, m4, _, _⟩ := (show _ ∧ _ from (by obtain ⟨_, _, _, _, _, _, _, _, _, q3, q4, q5, q6⟩ := R4.root.cells; exact ⟨q3, q4, q5, q6⟩) : w4.cell? ⟨b, 3, none⟩ = some (.pointer l.ptr) ∧ w4.cell? ⟨b, 4, none⟩ = some (.pointer r.ptr) ∧ _ ∧ _)
  have t0 := T4.cell 0
  have t1 := T4.cell 1
  have t2 := T4.cell 2
  have t3 := T4.cell 3
  have t4 := T4.cell 4
  have t5 := T4.cell 5
  have tf := T4.frozen
  have z0 := Z4.cell 0
  have z1 := Z4.cell 1
  have z2 := Z4.cell 2
  have z3 := Z4.cell 3
  have z4 := Z4.cell 4
  have z5 := Z4.cell 5
  have zf := Z4.frozen
  have c4 := C4.cell 0
  have H4 := Lib.hid (show _ ∧ _ ∧ _ ∧ _ ∧ _ ∧ _ ∧ _ ∧ _ from ⟨K2, tw, K4, T4, R4, C4, Z4, hz3⟩)
  clear H3 K2 tw R3 C3 Z3 hz3 K4 T4 R4 C4 Z4
  have hsz : ((l.size : Nat) : Int) ≤ 1000000 := by omega
  have hsz0 : (0 : Int) ≤ ((l.size : Nat) : Int) := by omega
  have L4 : Hid (Rep base w4 seed l) := Lib.hid H4.out.2.2.2.2.1.2.1
  generalize e1 : ((AT.node b k v l r).size : Int) = zsz at *
  generalize e2 : (AT.node b k v l r).sum seed = zsm at *
  generalize e3 : ((l.size : Nat) : Int) = lsz at *
  generalize e4 : l.ptr = pl at *
  generalize e5 : r.ptr = pr at *
  have HE := Lib.hid (show _ ∧ _ ∧ _ ∧ _ ∧ _ from ⟨e1, e2, e3, e4, e5⟩)
  clear e1 e2 e3 e4 e5
  cases pr with
  | none =>
    cases pl with
    | none =>
      go_wp2_with fail
      obtain ⟨K2, tw, K4, T4, R4, C4, Z4, hz3⟩ := H4.out
      refine bodyPost_ret (results_cell_row rfl _ _ w.heap.size 44 #[.slice A k.length c, .slice B v.length d, .int .u64 zsm, .int .i64 zsz, .int .i64 (-1), .int .i64 (-1)] (0, 0) _ rfl ((((((Z4.set_ 0 _).set_ 1 _).set_ 2 _).set_ 3 _).set_ 4 _).set_ 5 _) Try.underlying44 rfl info_size_node) rfl ?_
      obtain ⟨e1, e2, e3, e4, e5⟩ := HE.out
      refine ⟨A, c, B, d, by rw [e1, e2, e4, e5]; rfl, twin1_end tw K2 hz2 ?_, ?_⟩
      · (repeat' (first
          | (with_reducible (refine Keep.setCell ?_ (.inl (.inl rfl)) _))
          | (with_reducible (refine Keep.setCell ?_ (.inl (.inr htb)) _))
          | (with_reducible (refine Keep.drew ?_))
          | exact K4.mono (fun _ x => x.elim)))
      · (with_reducible (repeat' (first
          | exact C4
          | refine Blk.drew ?_
          | refine Blk.far ?_ han _
          | refine Blk.far ?_ hat _)))
    | some al =>
      go_wp2_with fail
      obtain ⟨K2, tw, K4, T4, R4, C4, Z4, hz3⟩ := H4.out
      refine bodyPost_ret (results_cell_row rfl _ _ w.heap.size 44 #[.slice A k.length c, .slice B v.length d, .int .u64 zsm, .int .i64 zsz, .int .i64 (at_ + 1 + 1), .int .i64 (-1)] (0, 0) _ rfl (((((((Z4.far hnt _).set_ 0 _).set_ 1 _).set_ 2 _).set_ 3 _).set_ 4 _).set_ 5 _) Try.underlying44 rfl info_size_node) rfl ?_
      obtain ⟨e1, e2, e3, e4, e5⟩ := HE.out
      refine ⟨A, c, B, d, by rw [e1, e2, e4, e5]; rfl, twin1_end tw K2 hz2 ?_, ?_⟩
      · (repeat' (first
          | (with_reducible (refine Keep.setCell ?_ (.inl (.inl rfl)) _))
          | (with_reducible (refine Keep.setCell ?_ (.inl (.inr htb)) _))
          | (with_reducible (refine Keep.drew ?_))
          | exact K4.mono (fun _ x => x.elim)))
      · (with_reducible (repeat' (first
          | exact C4
          | refine Blk.drew ?_
          | refine Blk.far ?_ han _
          | refine Blk.far ?_ hat _)))
  | some ar =>
    cases pl with
    | none =>
      go_wp2_with fail
      go_region_held3 (fun w' => w'.cell? ⟨b, 3, none⟩ = some (.pointer none) ∧ w'.cell? ⟨ab, 0, none⟩ = some (.int .i64 (at_ + 1)))
        (first
          | exact ⟨m3, c4⟩
          | exact ⟨(far_block _ _ _ _ hbt).trans m3, (far_block _ _ _ _ hat).trans c4⟩
          | go_keep)
        ((go_at_call 68; refine (hLC.out _ L4.out).mono ?_; rintro e w' ⟨rfl, rfl⟩))
      go_wp2_with fail
      obtain ⟨K2, tw, K4, T4, R4, C4, Z4, hz3⟩ := H4.out
      refine bodyPost_ret (results_cell_row rfl _ _ w.heap.size 44 #[.slice A k.length c, .slice B v.length d, .int .u64 zsm, .int .i64 zsz, .int .i64 (-1), .int .i64 (at_ + 1 + 1 + lsz)] (0, 0) _ rfl (((((((Z4.far hnt _).set_ 0 _).set_ 1 _).set_ 2 _).set_ 3 _).set_ 4 _).set_ 5 _).drew Try.underlying44 rfl info_size_node) rfl ?_
      obtain ⟨e1, e2, e3, e4, e5⟩ := HE.out
      refine ⟨A, c, B, d, by rw [e1, e2, e4, e5, e3]; rfl, twin1_end tw K2 hz2 ?_, ?_⟩
      · (repeat' (first
          | (with_reducible (refine Keep.setCell ?_ (.inl (.inl rfl)) _))
          | (with_reducible (refine Keep.setCell ?_ (.inl (.inr htb)) _))
          | (with_reducible (refine Keep.drew ?_))
          | exact K4.mono (fun _ x => x.elim)))
      · (with_reducible (repeat' (first
          | exact C4
          | refine Blk.drew ?_
          | refine Blk.far ?_ han _
          | refine Blk.far ?_ hat _)))
    | some al =>
      have L5 : Hid (Rep base (w4.setCell ⟨tb, 4, none⟩ (.int .i64 (at_ + 1 + 1))) seed l) := Lib.hid (L4.out.blk_off H4.out.2.2.2.1 hbase4 ((Keep.refl (Only tb) w4).setCell (p := ⟨tb, 4, none⟩) (.inl rfl) _) (by decide) rfl)
      go_wp2_with fail
      go_region_held3 (fun w' => w'.cell? ⟨b, 3, none⟩ = some (.pointer (some al)) ∧ w'.cell? ⟨ab, 0, none⟩ = some (.int .i64 (at_ + 1)))
        (first
          | exact ⟨(far_block _ _ _ _ hbt).trans m3, (far_block _ _ _ _ hat).trans c4⟩
          | exact ⟨(far_block _ _ _ _ hbt).trans ((far_block _ _ _ _ hbt).trans m3), (far_block _ _ _ _ hat).trans ((far_block _ _ _ _ hat).trans c4)⟩
          | go_keep)
        ((go_at_call 68; refine (hLC.out _ L5.out).mono ?_; rintro e w' ⟨rfl, rfl⟩))
      go_wp2_with fail
      obtain ⟨K2, tw, K4, T4, R4, C4, Z4, hz3⟩ := H4.out
      refine bodyPost_ret (results_cell_row rfl _ _ w.heap.size 44 #[.slice A k.length c, .slice B v.length d, .int .u64 zsm, .int .i64 zsz, .int .i64 (at_ + 1 + 1), .int .i64 (at_ + 1 + 1 + lsz)] (0, 0) _ rfl ((((((((Z4.far hnt _).far hnt _).set_ 0 _).set_ 1 _).set_ 2 _).set_ 3 _).set_ 4 _).set_ 5 _).drew Try.underlying44 rfl info_size_node) rfl ?_
      obtain ⟨e1, e2, e3, e4, e5⟩ := HE.out
      refine ⟨A, c, B, d, by rw [e1, e2, e4, e5, e3]; rfl, twin1_end tw K2 hz2 ?_, ?_⟩
      · (repeat' (first
          | (with_reducible (refine Keep.setCell ?_ (.inl (.inl rfl)) _))
          | (with_reducible (refine Keep.setCell ?_ (.inl (.inr htb)) _))
          | (with_reducible (refine Keep.drew ?_))
          | exact K4.mono (fun _ x => x.elim)))
      · (with_reducible (repeat' (first
          | exact C4
          | refine Blk.drew ?_
          | refine Blk.far ?_ han _
          | refine Blk.far ?_ hat _)))

end Go.Proofs.Ytdmckjojeddaaaa
