/- Contracts of order's Cut, Kin and Join. Conditions: each names its own. -/
import Derived.Test.YtdmckjojeddaaaaP6
import Derived.Test.YtdmckjojeddaaaaU3
import Derived.BigQuiet
import Derived.Deep.RegionHeld3
namespace Go.Proofs.Ytdmckjojeddaaaa
open Go.RowKit Go.Proofs.YtdmckjojeddaaaaKit Go.Proofs.YtdmckjojeddaaaaPlain

/-! ### Cut -/
/-- What Cut leaves: m is empty; two maps, in blocks of m's and new ones. -/
def MCut (base : Nat) (w : World) (mb : Nat) (seed : Int) (l : PairL) (F : List Nat) (key : List UInt8) (e : Ending) (w' : World) : Prop :=
  ∃ a b Fa Fb, e = .returned (.tuple #[.pointer (some ⟨a, 0, none⟩), .pointer (some ⟨b, 0, none⟩)]) ∧ MSt base w' mb seed [] [mb] ∧ MSt base w' a seed (l.take (rank key l)) Fa ∧ MSt base w' b seed (l.drop (rank key l)) Fb ∧
    (∀ x ∈ Fa, x ∉ Fb) ∧ mb ∉ Fa ∧ mb ∉ Fb ∧ (∀ x ∈ Fa, x ∈ F ∨ w.heap.size ≤ x) ∧ (∀ x ∈ Fb, x ∈ F ∨ w.heap.size ≤ x) ∧ Keep (In F) w w'
theorem MapHas.root {base : Nat} {w : World} {mb : Nat} {seed : Int} {root : Option Addr} (h : MapHas base w mb seed root) (u : Option Addr) : MapHas base (w.setCell ⟨mb, 2, none⟩ (.pointer u)) mb seed u := ⟨h.1, h.2.set_ 2 _⟩
theorem wf_nil {seed : Int} : WF seed .nil := ⟨List.Pairwise.nil, trivial⟩

set_option maxHeartbeats 2000000 in
set_option maxRecDepth 100000 in
theorem cut_any {base : Nat} {w : World} {seed : Int} {mb : Nat} {l : PairL} {F : List Nat} {A : Option Addr} {n c : Nat} {key : List UInt8} (h : MSt base w mb seed l F) (hk : Bytes base w A n key) (hb : base ≤ w.heap.size) (hsz : l.length ≤ 900000) :
    Calls Try.prog 48 #[.pointer (some ⟨mb, 0, none⟩), .slice A n c] w (MCut base w mb seed l F key) := by
  obtain ⟨t, hO, hwf, rfl, rfl⟩ := h
  rw [toList_length] at hsz
  have HR := Lib.hid (real_any hO.has)
  obtain ⟨m0, m1, m2⟩ := hO.has.cells
  have hml := hO.has.2.lt
  have hMM : ∀ W : World, base ≤ W.heap.size → MapHas base (W.alloc (.cells #[.bool true, .int .u64 seed, .pointer none] 106)) W.heap.size seed none := fun W h => ⟨h, Blk.new _ _ _⟩
  have HMM := Lib.hid hMM
  have HM := Lib.hid (fun W (h : Keep No w W) => (h.cell (p := ⟨mb, 1, none⟩) hml (fun x => x)).trans m1)
  have HM2 := Lib.hid (fun W (h : Keep No w W) => (h.cell (p := ⟨mb, 2, none⟩) hml (fun x => x)).trans m2)
  have HO := Lib.hid (show _ ∧ _ ∧ _ from ⟨hO, hk, hwf⟩)
  have HK0 := Lib.hid (Keep.refl No w).drew
  have tok1 : True := trivial
  clear hO hk hwf hMM
  go_enter Try.func48, Try.ntmps48
  go_wp2_with (go_at_call 64; refine HR.out.mono ?_; rintro e w' ⟨rfl, rfl⟩)
  go_region_held3 (fun w' => w'.cell? ⟨mb, 1, none⟩ = some (.int .u64 seed) ∧ Keep No w w')
    (first
      | with_reducible exact ⟨HM.out _ K2.out, K2.out⟩
      | with_reducible exact ⟨HM.out _ K1.out, K1.out⟩
      | with_reducible exact ⟨HM.out _ HK0.out, HK0.out⟩
      | fail)
    (first
      | (go_at_call 20; have _t := tok1; refine (new_any seed _).mono ?_; clear tok1; rintro e w1 ⟨rfl, hw1⟩; have K1 : Hid (Keep No w w1) := Lib.hid (by rw [hw1]; exact (Keep.refl No w).drew.alloc _); have M1 := Lib.hid (show MapHas base w1 w.heap.size seed none from by rw [hw1]; exact HMM.out w.drew hb); have Z1 := Lib.hid (show w1.heap.size = w.heap.size + 1 from by rw [hw1, World.size_alloc]; rfl); clear hw1 _t)
      | (go_at_call 20; refine (new_any seed _).mono ?_; rintro e w2 ⟨rfl, hw2⟩; have K2 : Hid (Keep No w w2) := Lib.hid (by rw [hw2]; exact K1.out.alloc _); have M2 := Lib.hid (show MapHas base w2 w1.heap.size seed none from by rw [hw2]; exact HMM.out w1 (Nat.le_trans hb K1.out.size)); have M3 := Lib.hid (show MapHas base w2 w.heap.size seed none from by rw [hw2]; exact M1.out.keep ((Keep.refl No w1).alloc _) (fun x => x)); have Z2 := Lib.hid (show w2.heap.size = w1.heap.size + 1 from by rw [hw2]; simp); clear hw2)
      | fail)
  have hm2 := HO.out.1.has.keep K2.out (fun x => x)
  have g2 := HM2.out _ K2.out
  have HSP := Lib.hid (split_any (base := base) (seed := seed) A n c key t w2 hm2 (HO.out.1.rep.new_ K2.out) HO.out.1.nodup (HO.out.2.1.new_ K2.out) (by omega))
  have hlt := fun x (hx : x ∈ t.blocks) => HO.out.1.rep.lt hx
  have HLT := Lib.hid (show _ ∧ _ ∧ _ from ⟨hm2, hlt, HO.out.1.has.ne HO.out.1.rep⟩)
  clear hm2 hlt m1 m2
  go_wp2_with fail
  refine HSP.out.mono ?_
  rintro e w3 ⟨rfl, r1, r2, k3⟩
  have hz1 := Z1.out
  have hab : w.heap.size ≠ w1.heap.size := by omega
  have ham : w.heap.size ≠ mb := by omega
  have hbm : w1.heap.size ≠ mb := by omega
  have N3 := M3.out.keep k3 (fun hx => by have := HLT.out.2.1 _ hx; omega)
  have N2 := M2.out.keep k3 (fun hx => by have := HLT.out.2.1 _ hx; omega)
  have NM := HLT.out.1.keep k3 HLT.out.2.2
  obtain ⟨_, _, a2⟩ := N3.cells
  obtain ⟨_, _, b2⟩ := N2.cells
  obtain ⟨_, _, c2⟩ := NM.cells
  have fa := N3.2.frozen 2
  have fb := N2.2.frozen 2
  have fc := NM.2.frozen 2
  have hge : w.heap.size ≤ w1.heap.size := by omega
  have H3 := Lib.hid (show _ ∧ _ ∧ _ ∧ _ ∧ _ ∧ _ from ⟨r1, r2, k3, N3, N2, NM⟩)
  have hnew := Lib.hid (show w.heap.size ≤ w.heap.size ∧ w.heap.size ≤ w1.heap.size from ⟨Nat.le_refl _, hge⟩)
  obtain ⟨ab, hab0⟩ : ∃ ab, w.heap.size = ab := ⟨_, rfl⟩
  obtain ⟨bb, hbb0⟩ : ∃ bb, w1.heap.size = bb := ⟨_, rfl⟩
  have hnew := Lib.hid (show w.heap.size ≤ ab ∧ w.heap.size ≤ bb from ⟨by omega, by omega⟩)
  rw [hab0] at hab ham N3 H3 a2 fa
  rw [hbb0] at hab hbm N2 H3 b2 fb
  have hba : bb ≠ ab := hab.symm
  have hma : mb ≠ ab := ham.symm
  have hmb : mb ≠ bb := hbm.symm
  have HZ := Lib.hid hge
  have hsz2 := k3.size
  clear r1 r2 k3 N3 N2 NM HSP g2 M1 M2 M3 Z1 Z2 hz1
  go_wp2
  go_ret2
  obtain ⟨r1, r2, k3, N3, N2, NM⟩ := H3.out
  have hW : Keep (fun x => x = ab ∨ x = bb ∨ x = mb) w3 (((w3.setCell ⟨ab, 2, none⟩ (.pointer (t.split key).1.ptr)).setCell ⟨bb, 2, none⟩ (.pointer (t.split key).2.ptr)).setCell ⟨mb, 2, none⟩ (.pointer none)) :=
    (((Keep.refl (fun x => x = ab ∨ x = bb ∨ x = mb) w3).setCell (p := ⟨ab, 2, none⟩) (.inl (.inl rfl)) _).setCell (p := ⟨bb, 2, none⟩) (.inl (.inr (.inl rfl))) _).setCell (p := ⟨mb, 2, none⟩) (.inl (.inr (.inr rfl))) _
  have hmt : ∀ x, (x = ab ∨ x = bb ∨ x = mb) → Mut base w3 x := by
    rintro x (rfl | rfl | rfl)
    · exact N3.mut
    · exact N2.mut
    · exact NM.mut
  have kone : ∀ (W : World) (p : Addr) (u : Value), Keep (fun x => x = p.block) W (W.setCell p u) := fun W p u => (Keep.refl (fun x => x = p.block) W).setCell (p := p) (.inl rfl) u
  have A1 := ((N3.root (t.split key).1.ptr).keep (kone _ ⟨bb, 2, none⟩ (.pointer (t.split key).2.ptr)) hab).keep (kone _ ⟨mb, 2, none⟩ (.pointer none)) ham
  have A2 := ((N2.keep (kone _ ⟨ab, 2, none⟩ (.pointer (t.split key).1.ptr)) hba).root (t.split key).2.ptr).keep (kone _ ⟨mb, 2, none⟩ (.pointer none)) hbm
  have A3 := ((NM.keep (kone _ ⟨ab, 2, none⟩ (.pointer (t.split key).1.ptr)) hma).keep (kone _ ⟨bb, 2, none⟩ (.pointer (t.split key).2.ptr)) hmb).root none
  have hp := split_perm key t
  have hnd : ((t.split key).1.blocks ++ (t.split key).2.blocks).Nodup := hp.nodup_iff.2 HO.out.1.nodup
  rw [List.nodup_append] at hnd
  obtain ⟨d1, d2, d3⟩ := hnd
  have hin : ∀ x, x ∈ (t.split key).1.blocks ∨ x ∈ (t.split key).2.blocks → x ∈ t.blocks := fun x hx => hp.mem_iff.1 (List.mem_append.2 hx)
  have hwf := split_wf (key := key) HO.out.2.2
  have hls := split_list (seed := seed) (key := key) HO.out.2.2.sorted
  have R1 : Rep base _ seed (t.split key).1 := r1.keep hW hmt (fun x hx e => by
    rcases e with rfl | rfl | rfl
    · exact N3.ne r1 hx
    · exact N2.ne r1 hx
    · exact NM.ne r1 hx)
  have R2 : Rep base _ seed (t.split key).2 := r2.keep hW hmt (fun x hx e => by
    rcases e with rfl | rfl | rfl
    · exact N3.ne r2 hx
    · exact N2.ne r2 hx
    · exact NM.ne r2 hx)
  refine ⟨ab, bb, ab :: (t.split key).1.blocks, bb :: (t.split key).2.blocks, rfl, ⟨.nil, ⟨A3, trivial, List.nodup_nil⟩, wf_nil, rfl, rfl⟩, ⟨_, ⟨A1, R1, d1⟩, hwf.1, hls.1, rfl⟩, ⟨_, ⟨A2, R2, d2⟩, hwf.2, hls.2, rfl⟩, ?_, ?_, ?_, ?_, ?_, ?_⟩
  · intro x hx hy
    rcases List.mem_cons.1 hx with rfl | hx
    · rcases List.mem_cons.1 hy with e | hy
      · exact hab e
      · exact N3.ne r2 hy
    · rcases List.mem_cons.1 hy with rfl | hy
      · exact N2.ne r1 hx
      · exact d3 x hx x hy rfl
  · intro hx
    rcases List.mem_cons.1 hx with e | hx
    · exact hma e
    · exact NM.ne r1 hx
  · intro hx
    rcases List.mem_cons.1 hx with e | hx
    · exact hmb e
    · exact NM.ne r2 hx
  · intro x hx
    rcases List.mem_cons.1 hx with rfl | hx
    · exact .inr (hnew.out.1)
    · exact .inl (List.mem_cons_of_mem _ (hin x (.inl hx)))
  · intro x hx
    rcases List.mem_cons.1 hx with rfl | hx
    · exact .inr (hnew.out.2)
    · exact .inl (List.mem_cons_of_mem _ (hin x (.inr hx)))
  · refine ((K2.out.mono (S' := In (mb :: t.blocks)) (fun _ x => x.elim)).trans k3 (fun x hx => .inl (List.mem_cons_of_mem _ hx))).trans hW (fun x hx => ?_)
    rcases hx with rfl | rfl | rfl
    · exact .inr hnew.out.1
    · exact .inr hnew.out.2
    · exact .inl List.mem_cons_self

/-! ### Kin -/
set_option maxHeartbeats 1000000 in
set_option maxRecDepth 100000 in
theorem kin_any {base : Nat} {w : World} {a b : Nat} {seed : Int} {la lb : PairL} {F G : List Nat} (ha : MSt base w a seed la F) (hb : MSt base w b seed lb G) :
    Calls Try.prog 50 #[.pointer (some ⟨a, 0, none⟩), .pointer (some ⟨b, 0, none⟩)] w fun e w' => e = .returned (.bool true) ∧ ∃ q, w' = w.drewN q := by
  obtain ⟨t, hO, _, _, _⟩ := ha
  obtain ⟨u, hU, _, _, _⟩ := hb
  have HR := Lib.hid (fun q => real_any (hO.has.keep ((Keep.refl No w).drewN q) (fun x => x)))
  have HS := Lib.hid (fun q => real_any (hU.has.keep ((Keep.refl No w).drewN q) (fun x => x)))
  obtain ⟨_, m1, _⟩ := hO.has.cells
  obtain ⟨_, n1, _⟩ := hU.has.cells
  clear hO hU
  go_enter Try.func50, Try.ntmps50
  go_wp2_with fail
  go_quiet ((first
    | (go_at_call_of 64 (Value.pointer (some ⟨a, 0, none⟩)); exact (HR.out _).mono (fun e w' h => ⟨h.1, _, h.2.symm⟩))
    | (go_at_call 64; exact (HS.out _).mono (fun e w' h => ⟨h.1, _, h.2.symm⟩))))
  go_wp2
  go_ret
  exact ⟨rfl, _, rfl⟩
end Go.Proofs.Ytdmckjojeddaaaa
