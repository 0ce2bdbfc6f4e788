/- Contracts of order's pair, Nodes$1, gather, Nodes. Conditions: each names its own. -/
import Derived.Test.YtdmckjojeddaaaaT9
namespace Go.Proofs.Ytdmckjojeddaaaa
open Go.RowKit Go.Proofs.YtdmckjojeddaaaaKit Go.Proofs.YtdmckjojeddaaaaPlain

/-- Two rows of bytes that the call has made, in blocks of their own. -/
def Twin (w : World) (k v : List UInt8) (A B : Option Addr) (c d : Nat) (w' : World) : Prop :=
  w'.ownsRow w.heap.size 5 1 (.slice A k.length c) k.length (byteVs k) ∧ w'.ownsRow w.heap.size 5 1 (.slice B v.length d) v.length (byteVs v) ∧
  (∀ x, (Value.slice A k.length c).ownBlock = some x → (Value.slice B v.length d).ownBlock ≠ some x) ∧ k.length ≤ c ∧ v.length ≤ d ∧ Keep No w w'

theorem twin_end {w W0 W1 W2 W3 : World} {k v : List UInt8} {A B : Option Addr} {c d : Nat} (h0 : w.heap.size < W0.heap.size) (h1 : W1.ownsRow W0.heap.size 5 1 (.slice A k.length c) k.length (byteVs k)) (hk : Keep No W1 W2)
    (h2 : W2.ownsRow W1.heap.size 5 1 (.slice B v.length d) v.length (byteVs v)) (h01 : W0.heap.size ≤ W1.heap.size) (h3 : Keep (fun b => b = w.heap.size) W2 W3) (hc : k.length ≤ c) (hd : v.length ≤ d) (hw : Keep No w W3) : Twin w k v A B c d W3 := by
  refine ⟨ownsRow_weak (own_keep (own_keep h1 hk (fun _ _ x => x)) h3 (fun x e hx => ?_)) (Nat.le_of_lt h0), ownsRow_weak (own_keep h2 h3 (fun x e hx => ?_)) (by omega), fun x e e2 => ?_, hc, hd, hw⟩
  · have := (World.ownsRow.lt h1 x e).1; omega
  · have := (World.ownsRow.lt h2 x e).1; omega
  · have := (World.ownsRow.lt h1 x e).2; have := (World.ownsRow.lt h2 x e2).1; omega
theorem Twin.swap {w W3 : World} {k v : List UInt8} {A B : Option Addr} {c d : Nat} (h : Twin w k v A B c d W3) : Twin w v k B A d c W3 :=
  ⟨h.2.1, h.1, fun x e e2 => h.2.2.1 x e2 e, h.2.2.2.2.1, h.2.2.2.1, h.2.2.2.2.2⟩
theorem info_size_pair : (Try.prog.info? 82).map (·.size) = some 2 := by kernel_rfl
theorem size_alloc_lt (w : World) (o : Obj) : w.heap.size < (w.alloc o).drew.heap.size := by show w.heap.size < (w.alloc o).heap.size; simp

set_option maxHeartbeats 2000000 in
set_option maxRecDepth 100000 in
theorem pair_any {base : Nat} {w : World} {seed : Int} {b : Nat} {k v : List UInt8} {lp rp : Option Addr} {sz dg : Int} (h : Node base w seed b k v lp rp sz dg) :
    Calls Try.prog 67 #[.pointer (some ⟨b, 0, none⟩)] w fun e w' =>
      ∃ A c B d, e = .returned (.agg #[.slice A k.length c, .slice B v.length d]) ∧ Twin w k v A B c d w' := by
  obtain ⟨A, c, B, d, hA, hB, c0, c1, _⟩ := h.cells
  have hbl := h.lt
  have hkv := h.2.1
  have hk2 := hkv.2.1
  have hv2 := hkv.2.2
  have HA := Lib.hid hA
  have HB := Lib.hid hB
  have hbn : b ≠ w.heap.size := by omega
  clear h hA hB hkv
  go_enter Try.func67, Try.ntmps67
  go_wp2_with fail
  have S0 : Blk (w.alloc (.cells #[.slice none 0 0, .slice none 0 0] 82)).drew w.heap.size 82 #[.slice none 0 0, .slice none 0 0] := Blk.new _ _ _
  go_region_held3 (fun w' => w'.cell? ⟨b, 0, none⟩ = some (.slice A k.length c) ∧ w'.cell? ⟨b, 1, none⟩ = some (.slice B v.length d) ∧ (∃ x0 x1, Blk w' w.heap.size 82 #[x0, x1]) ∧ Keep No w w' ∧ w.heap.size < w'.heap.size)
    (first
      | exact ⟨(World.cell?_alloc_lt _ _ _ hbl).trans c0, (World.cell?_alloc_lt _ _ _ hbl).trans c1, ⟨_, _, S0⟩, ((Keep.refl No w).alloc _).drew, size_alloc_lt _ _⟩
      | (go_split_ands; exact ⟨(hkd.cell (p := ⟨b, 0, none⟩) (Nat.lt_trans hbl (by assumption)) (fun x => x)).trans (by assumption), (hkd.cell (p := ⟨b, 1, none⟩) (Nat.lt_trans hbl (by assumption)) (fun x => x)).trans (by assumption), ⟨_, _, hB1⟩, Keep.trans (by assumption) hkd (fun _ x => x.elim), Nat.lt_of_lt_of_le (by assumption) hkd.size⟩)
      | (go_split_ands; obtain ⟨x0, x1, hB9⟩ := ‹∃ x0 x1, Blk _ _ _ #[x0, x1]›; exact ⟨(far_block _ _ _ _ hbn).trans ((far_block _ _ _ _ hbn).trans (by assumption)), (far_block _ _ _ _ hbn).trans ((far_block _ _ _ _ hbn).trans (by assumption)), ⟨Value.slice Ak k.length ck, Value.slice Av v.length cv, (hB9.set_ 0 _).set_ 1 _⟩, Keep.setCell (Keep.setCell (by assumption) (.inr (Nat.le_refl _)) _) (.inr (Nat.le_refl _)) _, by simpa [World.setCell]⟩)
      | go_keep)
    (first
      | (go_at_call_of 62 (Value.slice A k.length c); go_split_ands; refine (bclone A _ c k _ (HA.out.new_ (by assumption)) (by omega)).mono ?_; rintro e w1 ⟨Ak, ck, rfl, hck, hownk, hkd⟩; obtain ⟨x0, x1, hB0⟩ := ‹∃ x0 x1, Blk _ _ _ #[x0, x1]›; have hB1 := hB0.keep hkd (fun x => x); have g0 := hB1.cell 0; have g1 := hB1.cell 1; have f0 := hB1.frozen 0; have f1 := hB1.frozen 1)
      | (go_at_call_of 62 (Value.slice B v.length d); go_split_ands; refine (bclone B _ d v _ (HB.out.new_ (by assumption)) (by omega)).mono ?_; rintro e w2 ⟨Av, cv, rfl, hcv, hownv, hkd⟩; obtain ⟨x0, x1, hB0⟩ := ‹∃ x0 x1, Blk _ _ _ #[x0, x1]›; have hB1 := hB0.keep hkd (fun x => x); have g0 := hB1.cell 0; have g1 := hB1.cell 1; have f0 := hB1.frozen 0; have f1 := hB1.frozen 1))
  all_goals
    go_wp2
    (try simp only [Exit.inBlock, Exit.then])
    first
      | (obtain ⟨y0, y1, hb9⟩ : ∃ y0 y1, Blk w2 w.heap.size 82 #[y0, y1] := ⟨_, _, by assumption⟩; refine bodyPost_ret (results_cell_row rfl _ (w2.setCell _ _ |>.setCell _ _) w.heap.size 82 #[.slice Ak k.length ck, .slice Av v.length cv] (0, 0) _ rfl ((hb9.set_ 0 _).set_ 1 _) Try.underlying82 rfl info_size_pair) rfl ?_)
      | (obtain ⟨y0, y1, hb9⟩ : ∃ y0 y1, Blk w1 w.heap.size 82 #[y0, y1] := ⟨_, _, by assumption⟩; refine bodyPost_ret (results_cell_row rfl _ (w1.setCell _ _ |>.setCell _ _) w.heap.size 82 #[.slice Ak k.length ck, .slice Av v.length cv] (0, 0) _ rfl ((hb9.set_ 0 _).set_ 1 _) Try.underlying82 rfl info_size_pair) rfl ?_)
    refine ⟨_, _, _, _, rfl, ?_⟩
  all_goals exact twin_end (size_alloc_lt _ _) hownk hkd hownv (Keep.size (by assumption)) (((Keep.refl (fun b => b = w.heap.size) w2).setCell (p := ⟨w.heap.size, 0, none⟩) (.inl rfl) _).setCell (p := ⟨w.heap.size, 1, none⟩) (.inl rfl) _) hck hcv (by go_split_ands; assumption)

end Go.Proofs.Ytdmckjojeddaaaa
