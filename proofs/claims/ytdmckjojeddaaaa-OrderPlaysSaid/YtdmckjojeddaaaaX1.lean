/- Contracts of order's Cut, Kin and Join. Conditions: each names its own. -/
import Derived.Test.YtdmckjojeddaaaaP6
import Derived.Test.YtdmckjojeddaaaaU3
import Derived.Test.YtdmckjojeddaaaaN1
import Derived.Test.YtdmckjojeddaaaaY1
import Derived.BigQuiet
import Derived.Deep.RegionHeld3
import Derived.Deep.QuietTactic
import Derived.Deep.LoopGhost
namespace Go.Proofs.Ytdmckjojeddaaaa
open Go.RowKit Go.Proofs.YtdmckjojeddaaaaKit Go.Proofs.YtdmckjojeddaaaaPlain

/-! ### Cut -/
/-- What Cut leaves: m is empty; two maps, in blocks of m's and new ones. -/
def MCut (base : Nat) (w : World) (mb : Nat) (seed : Int) (l : PairL) (F : List Nat) (key : List UInt8) (e : Ending) (w' : World) : Prop :=
  ∃ a b Fa Fb, e = .returned (.tuple #[.pointer (some ⟨a, 0, none⟩), .pointer (some ⟨b, 0, none⟩)]) ∧ MSt base w' mb seed [] [mb] ∧ MSt base w' a seed (l.take (rank key l)) Fa ∧ MSt base w' b seed (l.drop (rank key l)) Fb ∧
    (∀ x ∈ Fa, x ∉ Fb) ∧ mb ∉ Fa ∧ mb ∉ Fb ∧ (∀ x ∈ Fa, x ∈ F ∨ w.heap.size ≤ x) ∧ (∀ x ∈ Fb, x ∈ F ∨ w.heap.size ≤ x) ∧ Keep (In F) w w'
theorem MapHas.root {base : Nat} {w : World} {mb : Nat} {seed : Int} {root : Option Addr} (h : MapHas base w mb seed root) (u : Option Addr) : MapHas base (w.setCell ⟨mb, 2, none⟩ (.pointer u)) mb seed u := ⟨h.1, h.2.set_ 2 _⟩
theorem wf_nil {seed : Int} : WF seed .nil := ⟨List.Pairwise.nil, trivial⟩

set_option maxHeartbeats 2000000 in
set_option maxRecDepth 100000 in
theorem cut_any {base : Nat} {w : World} {seed : Int} {mb : Nat} {l : PairL} {F : List Nat} {A : Option Addr} {n c : Nat} {key : List UInt8} (h : MSt base w mb seed l F) (hk : Bytes base w A n key) (hb : base ≤ w.heap.size) (hsz : l.length ≤ 900000) :
    Calls Try.prog 48 #[.pointer (some ⟨mb, 0, none⟩), .slice A n c] w (MCut base w mb seed l F key) := by
  obtain ⟨t, hO, hwf, rfl, rfl⟩ := h
  rw [toList_length] at hsz
  have HR := Lib.hid (real_any hO.has)
  obtain ⟨m0, m1, m2⟩ := hO.has.cells
  have hml := hO.has.2.lt
  have hMM : ∀ W : World, base ≤ W.heap.size → MapHas base (W.alloc (.cells #[.bool true, .int .u64 seed, .pointer none] 106)) W.heap.size seed none := fun W h => ⟨h, Blk.new _ _ _⟩
  have HMM := Lib.hid hMM
  have HM := Lib.hid (fun W (h : Keep No w W) => (h.cell (p := ⟨mb, 1, none⟩) hml (fun x => x)).trans m1)
  have HM2 := Lib.hid (fun W (h : Keep No w W) => (h.cell (p := ⟨mb, 2, none⟩) hml (fun x => x)).trans m2)
  have HO := Lib.hid (show _ ∧ _ ∧ _ from ⟨hO, hk, hwf⟩)
  have HK0 := Lib.hid (Keep.refl No w).drew
  have tok1 : True := trivial
  clear hO hk hwf hMM
  go_enter Try.func48, Try.ntmps48
  go_wp2_with (go_at_call 64; refine HR.out.mono ?_; rintro e w' ⟨rfl, rfl⟩)
  go_region_held3 (fun w' => w'.cell? ⟨mb, 1, none⟩ = some (.int .u64 seed) ∧ Keep No w w')
    (first
      | with_reducible exact ⟨HM.out _ K2.out, K2.out⟩
      | with_reducible exact ⟨HM.out _ K1.out, K1.out⟩
      | with_reducible exact ⟨HM.out _ HK0.out, HK0.out⟩
      | fail)
    (first
      | (go_at_call 20; have _t := tok1; refine (new_any seed _).mono ?_; clear tok1; rintro e w1 ⟨rfl, hw1⟩; have K1 : Hid (Keep No w w1) := Lib.hid (by rw [hw1]; exact (Keep.refl No w).drew.alloc _); have M1 := Lib.hid (show MapHas base w1 w.heap.size seed none from by rw [hw1]; exact HMM.out w.drew hb); have Z1 := Lib.hid (show w1.heap.size = w.heap.size + 1 from by rw [hw1, World.size_alloc]; rfl); clear hw1 _t)
      | (go_at_call 20; refine (new_any seed _).mono ?_; rintro e w2 ⟨rfl, hw2⟩; have K2 : Hid (Keep No w w2) := Lib.hid (by rw [hw2]; exact K1.out.alloc _); have M2 := Lib.hid (show MapHas base w2 w1.heap.size seed none from by rw [hw2]; exact HMM.out w1 (Nat.le_trans hb K1.out.size)); have M3 := Lib.hid (show MapHas base w2 w.heap.size seed none from by rw [hw2]; exact M1.out.keep ((Keep.refl No w1).alloc _) (fun x => x)); have Z2 := Lib.hid (show w2.heap.size = w1.heap.size + 1 from by rw [hw2]; simp); clear hw2)
      | fail)
  have hm2 := HO.out.1.has.keep K2.out (fun x => x)
  have g2 := HM2.out _ K2.out
  have HSP := Lib.hid (split_any (base := base) (seed := seed) A n c key t w2 hm2 (HO.out.1.rep.new_ K2.out) HO.out.1.nodup (HO.out.2.1.new_ K2.out) (by omega))
  have hlt := fun x (hx : x ∈ t.blocks) => HO.out.1.rep.lt hx
  have HLT := Lib.hid (show _ ∧ _ ∧ _ from ⟨hm2, hlt, HO.out.1.has.ne HO.out.1.rep⟩)
  clear hm2 hlt m1 m2
  go_wp2_with fail
  refine HSP.out.mono ?_
  rintro e w3 ⟨rfl, r1, r2, k3⟩
  have hz1 := Z1.out
  have hab : w.heap.size ≠ w1.heap.size := by omega
  have ham : w.heap.size ≠ mb := by omega
  have hbm : w1.heap.size ≠ mb := by omega
  have N3 := M3.out.keep k3 (fun hx => by have := HLT.out.2.1 _ hx; omega)
  have N2 := M2.out.keep k3 (fun hx => by have := HLT.out.2.1 _ hx; omega)
  have NM := HLT.out.1.keep k3 HLT.out.2.2
  obtain ⟨_, _, a2⟩ := N3.cells
  obtain ⟨_, _, b2⟩ := N2.cells
  obtain ⟨_, _, c2⟩ := NM.cells
  have fa := N3.2.frozen 2
  have fb := N2.2.frozen 2
  have fc := NM.2.frozen 2
  have hge : w.heap.size ≤ w1.heap.size := by omega
  have H3 := Lib.hid (show _ ∧ _ ∧ _ ∧ _ ∧ _ ∧ _ from ⟨r1, r2, k3, N3, N2, NM⟩)
  have hnew := Lib.hid (show w.heap.size ≤ w.heap.size ∧ w.heap.size ≤ w1.heap.size from ⟨Nat.le_refl _, hge⟩)
  obtain ⟨ab, hab0⟩ : ∃ ab, w.heap.size = ab := ⟨_, rfl⟩
  obtain ⟨bb, hbb0⟩ : ∃ bb, w1.heap.size = bb := ⟨_, rfl⟩
  have hnew := Lib.hid (show w.heap.size ≤ ab ∧ w.heap.size ≤ bb from ⟨by omega, by omega⟩)
  rw [hab0] at hab ham N3 H3 a2 fa
  rw [hbb0] at hab hbm N2 H3 b2 fb
  have hba : bb ≠ ab := hab.symm
  have hma : mb ≠ ab := ham.symm
  have hmb : mb ≠ bb := hbm.symm
  have HZ := Lib.hid hge
  have hsz2 := k3.size
  clear r1 r2 k3 N3 N2 NM HSP g2 M1 M2 M3 Z1 Z2 hz1
  go_wp2
  go_ret2
  obtain ⟨r1, r2, k3, N3, N2, NM⟩ := H3.out
  have hW : Keep (fun x => x = ab ∨ x = bb ∨ x = mb) w3 (((w3.setCell ⟨ab, 2, none⟩ (.pointer (t.split key).1.ptr)).setCell ⟨bb, 2, none⟩ (.pointer (t.split key).2.ptr)).setCell ⟨mb, 2, none⟩ (.pointer none)) :=
    (((Keep.refl (fun x => x = ab ∨ x = bb ∨ x = mb) w3).setCell (p := ⟨ab, 2, none⟩) (.inl (.inl rfl)) _).setCell (p := ⟨bb, 2, none⟩) (.inl (.inr (.inl rfl))) _).setCell (p := ⟨mb, 2, none⟩) (.inl (.inr (.inr rfl))) _
  have hmt : ∀ x, (x = ab ∨ x = bb ∨ x = mb) → Mut base w3 x := by
    rintro x (rfl | rfl | rfl)
    · exact N3.mut
    · exact N2.mut
    · exact NM.mut
  have kone : ∀ (W : World) (p : Addr) (u : Value), Keep (fun x => x = p.block) W (W.setCell p u) := fun W p u => (Keep.refl (fun x => x = p.block) W).setCell (p := p) (.inl rfl) u
  have A1 := ((N3.root (t.split key).1.ptr).keep (kone _ ⟨bb, 2, none⟩ (.pointer (t.split key).2.ptr)) hab).keep (kone _ ⟨mb, 2, none⟩ (.pointer none)) ham
  have A2 := ((N2.keep (kone _ ⟨ab, 2, none⟩ (.pointer (t.split key).1.ptr)) hba).root (t.split key).2.ptr).keep (kone _ ⟨mb, 2, none⟩ (.pointer none)) hbm
  have A3 := ((NM.keep (kone _ ⟨ab, 2, none⟩ (.pointer (t.split key).1.ptr)) hma).keep (kone _ ⟨bb, 2, none⟩ (.pointer (t.split key).2.ptr)) hmb).root none
  have hp := split_perm key t
  have hnd : ((t.split key).1.blocks ++ (t.split key).2.blocks).Nodup := hp.nodup_iff.2 HO.out.1.nodup
  rw [List.nodup_append] at hnd
  obtain ⟨d1, d2, d3⟩ := hnd
  have hin : ∀ x, x ∈ (t.split key).1.blocks ∨ x ∈ (t.split key).2.blocks → x ∈ t.blocks := fun x hx => hp.mem_iff.1 (List.mem_append.2 hx)
  have hwf := split_wf (key := key) HO.out.2.2
  have hls := split_list (seed := seed) (key := key) HO.out.2.2.sorted
  have R1 : Rep base _ seed (t.split key).1 := r1.keep hW hmt (fun x hx e => by
    rcases e with rfl | rfl | rfl
    · exact N3.ne r1 hx
    · exact N2.ne r1 hx
    · exact NM.ne r1 hx)
  have R2 : Rep base _ seed (t.split key).2 := r2.keep hW hmt (fun x hx e => by
    rcases e with rfl | rfl | rfl
    · exact N3.ne r2 hx
    · exact N2.ne r2 hx
    · exact NM.ne r2 hx)
  refine ⟨ab, bb, ab :: (t.split key).1.blocks, bb :: (t.split key).2.blocks, rfl, ⟨.nil, ⟨A3, trivial, List.nodup_nil⟩, wf_nil, rfl, rfl⟩, ⟨_, ⟨A1, R1, d1⟩, hwf.1, hls.1, rfl⟩, ⟨_, ⟨A2, R2, d2⟩, hwf.2, hls.2, rfl⟩, ?_, ?_, ?_, ?_, ?_, ?_⟩
  · intro x hx hy
    rcases List.mem_cons.1 hx with rfl | hx
    · rcases List.mem_cons.1 hy with e | hy
      · exact hab e
      · exact N3.ne r2 hy
    · rcases List.mem_cons.1 hy with rfl | hy
      · exact N2.ne r1 hx
      · exact d3 x hx x hy rfl
  · intro hx
    rcases List.mem_cons.1 hx with e | hx
    · exact hma e
    · exact NM.ne r1 hx
  · intro hx
    rcases List.mem_cons.1 hx with e | hx
    · exact hmb e
    · exact NM.ne r2 hx
  · intro x hx
    rcases List.mem_cons.1 hx with rfl | hx
    · exact .inr (hnew.out.1)
    · exact .inl (List.mem_cons_of_mem _ (hin x (.inl hx)))
  · intro x hx
    rcases List.mem_cons.1 hx with rfl | hx
    · exact .inr (hnew.out.2)
    · exact .inl (List.mem_cons_of_mem _ (hin x (.inr hx)))
  · refine ((K2.out.mono (S' := In (mb :: t.blocks)) (fun _ x => x.elim)).trans k3 (fun x hx => .inl (List.mem_cons_of_mem _ hx))).trans hW (fun x hx => ?_)
    rcases hx with rfl | rfl | rfl
    · exact .inr hnew.out.1
    · exact .inr hnew.out.2
    · exact .inl List.mem_cons_self

/-! ### Kin -/
set_option maxHeartbeats 1000000 in
set_option maxRecDepth 100000 in
theorem kin_any {base : Nat} {w : World} {a b : Nat} {seed : Int} {la lb : PairL} {F G : List Nat} (ha : MSt base w a seed la F) (hb : MSt base w b seed lb G) :
    Calls Try.prog 50 #[.pointer (some ⟨a, 0, none⟩), .pointer (some ⟨b, 0, none⟩)] w fun e w' => e = .returned (.bool true) ∧ ∃ q, w' = w.drewN q := by
  obtain ⟨t, hO, _, _, _⟩ := ha
  obtain ⟨u, hU, _, _, _⟩ := hb
  have HR := Lib.hid (fun q => real_any (hO.has.keep ((Keep.refl No w).drewN q) (fun x => x)))
  have HS := Lib.hid (fun q => real_any (hU.has.keep ((Keep.refl No w).drewN q) (fun x => x)))
  obtain ⟨_, m1, _⟩ := hO.has.cells
  obtain ⟨_, n1, _⟩ := hU.has.cells
  clear hO hU
  go_enter Try.func50, Try.ntmps50
  go_wp2_with fail
  go_quiet ((first
    | (go_at_call_of 64 (Value.pointer (some ⟨a, 0, none⟩)); exact (HR.out _).mono (fun e w' h => ⟨h.1, _, h.2.symm⟩))
    | (go_at_call 64; exact (HS.out _).mono (fun e w' h => ⟨h.1, _, h.2.symm⟩))))
  go_wp2
  go_ret
  exact ⟨rfl, _, rfl⟩
end Go.Proofs.Ytdmckjojeddaaaa

namespace Go.Proofs.Ytdmckjojeddaaaa
open Go.RowKit Go.Proofs.YtdmckjojeddaaaaKit Go.Proofs.YtdmckjojeddaaaaPlain

/-! ### What a join answers -/
def firstKey : PairL → List UInt8
  | [] => []
  | p :: _ => p.1
def lastKey : PairL → List UInt8
  | [] => []
  | [p] => p.1
  | _ :: l => lastKey l
theorem lastKey_append {a b : PairL} (h : b ≠ []) : lastKey (a ++ b) = lastKey b := by
  induction a with
  | nil => rfl
  | cons p a ih =>
    cases hab : a ++ b with
    | nil => simp at hab; exact absurd hab.2 h
    | cons q c =>
      have e : lastKey (p :: q :: c) = lastKey (q :: c) := rfl
      rw [List.cons_append, hab, e, ← hab, ih]
theorem firstKey_append {a b : PairL} (h : a ≠ []) : firstKey (a ++ b) = firstKey a := by
  cases a with
  | nil => exact absurd rfl h
  | cons p a => rfl
theorem lastKey_mem {l : PairL} (h : l ≠ []) : ∃ p ∈ l, p.1 = lastKey l := by
  induction l with
  | nil => exact absurd rfl h
  | cons p l ih =>
    cases l with
    | nil => exact ⟨p, List.mem_cons_self, rfl⟩
    | cons q l =>
      obtain ⟨r, hr, e⟩ := ih (by simp)
      exact ⟨r, List.mem_cons_of_mem _ hr, e⟩
theorem le_lastKey {l : PairL} (hs : Sorted l) : ∀ p ∈ l, p.1 = lastKey l ∨ Lt p.1 (lastKey l) := by
  induction l with
  | nil => intro p hp; cases hp
  | cons q l ih =>
    obtain ⟨h1, h2⟩ := sorted_cons.1 hs
    intro p hp
    cases l with
    | nil => simp at hp; subst hp; exact .inl rfl
    | cons r l =>
      have e : lastKey (q :: r :: l) = lastKey (r :: l) := rfl
      rw [e]
      rcases List.mem_cons.1 hp with rfl | hp
      · rcases ih h2 r List.mem_cons_self with h3 | h3
        · exact .inr (h3 ▸ h1 r List.mem_cons_self)
        · exact .inr (lt_trans (h1 r List.mem_cons_self) h3)
      · exact ih h2 p hp
theorem firstKey_le {l : PairL} (hs : Sorted l) : ∀ p ∈ l, firstKey l = p.1 ∨ Lt (firstKey l) p.1 := by
  cases l with
  | nil => intro p hp; cases hp
  | cons q l =>
    intro p hp
    rcases List.mem_cons.1 hp with rfl | hp
    · exact .inl rfl
    · exact .inr ((sorted_cons.1 hs).1 p hp)
theorem lt_all {a b : PairL} (ha : Sorted a) (hb : Sorted b) (h : a = [] ∨ b = [] ∨ Lt (lastKey a) (firstKey b)) : ∀ p ∈ a, ∀ q ∈ b, Lt p.1 q.1 := by
  intro p hp q hq
  rcases h with rfl | rfl | h
  · cases hp
  · cases hq
  · have h1 : Lt p.1 (firstKey b) := by
      rcases le_lastKey ha p hp with e | e
      · rw [e]; exact h
      · exact lt_trans e h
    rcases firstKey_le hb q hq with e | e
    · rw [← e]; exact h1
    · exact lt_trans h1 e
/-- 0: joined; 7: not in order. -/
def fitsL (a b : PairL) : Int := if a ≠ [] ∧ b ≠ [] ∧ ¬ Lt (lastKey a) (firstKey b) then 7 else 0
theorem fits_or {a b : PairL} (h : a = [] ∨ b = [] ∨ Lt (lastKey a) (firstKey b)) : fitsL a b = 0 := by
  unfold fitsL
  rw [if_neg]
  rintro ⟨h1, h2, h3⟩
  rcases h with h | h | h
  · exact h1 h
  · exact h2 h
  · exact h3 h
def MJoin (base : Nat) (w : World) (a b : Nat) (seed : Int) (la lb : PairL) (F G : List Nat) (e : Ending) (w' : World) : Prop :=
  (fitsL la lb ≠ 0 → e = .returned (.tuple #[.pointer none, .int .i64 (fitsL la lb)]) ∧ Drawn w w') ∧
  (fitsL la lb = 0 → ∃ c H, e = .returned (.tuple #[.pointer (some ⟨c, 0, none⟩), .int .i64 0]) ∧ MSt base w' c seed (la ++ lb) H ∧ MSt base w' a seed [] [a] ∧ MSt base w' b seed [] [b] ∧ a ∉ H ∧ b ∉ H ∧ (∀ x ∈ H, x ∈ F ∨ x ∈ G ∨ w.heap.size ≤ x) ∧ Keep (In (F ++ G)) w w')
theorem mjoin_no {base : Nat} {w w' : World} {a b : Nat} {seed : Int} {la lb : PairL} {F G : List Nat} {k : Int} (h : fitsL la lb = k) (h0 : k ≠ 0) (hd : Drawn w w') : MJoin base w a b seed la lb F G (.returned (.tuple #[.pointer none, .int .i64 k])) w' := by
  subst h
  exact ⟨fun _ => ⟨rfl, hd⟩, fun e => absurd e h0⟩
theorem node_ne {b : Nat} {k v : List UInt8} {l r : AT} : (AT.node b k v l r).toList ≠ [] := by simp [AT.toList]
theorem node_last {b : Nat} {k v : List UInt8} {l r : AT} (h : r.toList ≠ []) : lastKey (AT.node b k v l r).toList = lastKey r.toList := by
  rw [AT.toList, lastKey_append (by simp)]
  cases hx : r.toList with
  | nil => exact absurd hx h
  | cons p t => rfl
theorem node_first {b : Nat} {k v : List UInt8} {l r : AT} (h : l.toList ≠ []) : firstKey (AT.node b k v l r).toList = firstKey l.toList := by rw [AT.toList, firstKey_append h]
theorem join_end {base : Nat} {w w5 w6 : World} {a b cb : Nat} {seed : Int} {ta tb : AT} (ha : MObj base w a seed ta) (hb : MObj base w b seed tb) (wa : WF seed ta) (wb : WF seed tb) (hap : ∀ x ∈ a :: ta.blocks, x ∉ b :: tb.blocks)
    (hfit : ta.toList = [] ∨ tb.toList = [] ∨ Lt (lastKey ta.toList) (firstKey tb.toList)) (k5 : Keep No w w5) (m5 : MapHas base w5 cb seed none) (hcb : w.heap.size ≤ cb) (r6 : Rep base w6 seed (AT.merge seed ta tb)) (k6 : Keep (In (ta.blocks ++ tb.blocks)) w5.drew w6) :
    MJoin base w a b seed ta.toList tb.toList (a :: ta.blocks) (b :: tb.blocks) (.returned (.tuple #[.pointer (some ⟨cb, 0, none⟩), .int .i64 0])) (((w6.setCell ⟨cb, 2, none⟩ (.pointer (AT.merge seed ta tb).ptr)).setCell ⟨a, 2, none⟩ (.pointer none)).setCell ⟨b, 2, none⟩ (.pointer none)) := by
  have h0 := fits_or hfit
  refine ⟨fun h => absurd h0 h, fun _ => ?_⟩
  have hal := ha.has.2.lt
  have hbl := hb.has.2.lt
  have hab : a ≠ b := fun e => hap a List.mem_cons_self (e ▸ List.mem_cons_self)
  have hac : a ≠ cb := by omega
  have hbc : b ≠ cb := by omega
  have haa := ha.has.ne ha.rep
  have hbb := hb.has.ne hb.rep
  have haT : a ∉ tb.blocks := fun h => hap a List.mem_cons_self (List.mem_cons_of_mem _ h)
  have hbT : b ∉ ta.blocks := fun h => hap b (List.mem_cons_of_mem _ h) List.mem_cons_self
  have hlt : ∀ x ∈ ta.blocks ++ tb.blocks, x < w.heap.size := fun x hx => (List.mem_append.1 hx).elim (fun h => ha.rep.lt h) (fun h => hb.rep.lt h)
  have N1 := (ha.has.keep k5.drew (fun x => x)).keep k6 (fun h => (List.mem_append.1 h).elim haa haT)
  have N2 := (hb.has.keep k5.drew (fun x => x)).keep k6 (fun h => (List.mem_append.1 h).elim hbT hbb)
  have N3 := (m5.keep ((Keep.refl No w5).drew) (fun x => x)).keep k6 (fun h => by have := hlt _ h; omega)
  have kone : ∀ (W : World) (p : Addr) (u : Value), Keep (fun x => x = p.block) W (W.setCell p u) := fun W p u => (Keep.refl (fun x => x = p.block) W).setCell (p := p) (.inl rfl) u
  have hW : Keep (fun x => x = cb ∨ x = a ∨ x = b) w6 (((w6.setCell ⟨cb, 2, none⟩ (.pointer (AT.merge seed ta tb).ptr)).setCell ⟨a, 2, none⟩ (.pointer none)).setCell ⟨b, 2, none⟩ (.pointer none)) :=
    (((Keep.refl (fun x => x = cb ∨ x = a ∨ x = b) w6).setCell (p := ⟨cb, 2, none⟩) (.inl (.inl rfl)) _).setCell (p := ⟨a, 2, none⟩) (.inl (.inr (.inl rfl))) _).setCell (p := ⟨b, 2, none⟩) (.inl (.inr (.inr rfl))) _
  have hmt : ∀ x, (x = cb ∨ x = a ∨ x = b) → Mut base w6 x := by
    rintro x (rfl | rfl | rfl)
    · exact N3.mut
    · exact N1.mut
    · exact N2.mut
  have A3 := ((N3.root (AT.merge seed ta tb).ptr).keep (kone _ ⟨a, 2, none⟩ (.pointer none)) hac.symm).keep (kone _ ⟨b, 2, none⟩ (.pointer none)) hbc.symm
  have A1 := ((N1.keep (kone _ ⟨cb, 2, none⟩ (.pointer (AT.merge seed ta tb).ptr)) hac).root none).keep (kone _ ⟨b, 2, none⟩ (.pointer none)) hab
  have A2 := ((N2.keep (kone _ ⟨cb, 2, none⟩ (.pointer (AT.merge seed ta tb).ptr)) hbc).keep (kone _ ⟨a, 2, none⟩ (.pointer none)) hab.symm).root none
  have hp := (merge_perm seed _ ta tb (Nat.le_refl _)).1
  have hnd : (ta.blocks ++ tb.blocks).Nodup := List.nodup_append.2 ⟨ha.nodup, hb.nodup, fun x hx y hy e => hap x (List.mem_cons_of_mem _ hx) (e ▸ List.mem_cons_of_mem _ hy)⟩
  have R6 : Rep base _ seed (AT.merge seed ta tb) := r6.keep hW hmt (fun x hx e => by
    rcases e with rfl | rfl | rfl
    · exact N3.ne r6 hx
    · exact N1.ne r6 hx
    · exact N2.ne r6 hx)
  have hd := lt_all wa.sorted wb.sorted hfit
  refine ⟨cb, cb :: (AT.merge seed ta tb).blocks, rfl, ⟨_, ⟨A3, R6, hp.nodup_iff.2 hnd⟩, merge_wf hd wa wb, merge_toList seed ta tb, rfl⟩, ⟨.nil, ⟨A1, trivial, List.nodup_nil⟩, wf_nil, rfl, rfl⟩, ⟨.nil, ⟨A2, trivial, List.nodup_nil⟩, wf_nil, rfl, rfl⟩, ?_, ?_, ?_, ?_⟩
  · intro h
    rcases List.mem_cons.1 h with e | h
    · exact hac e
    · exact N1.ne r6 h
  · intro h
    rcases List.mem_cons.1 h with e | h
    · exact hbc e
    · exact N2.ne r6 h
  · intro x hx
    rcases List.mem_cons.1 hx with rfl | hx
    · exact .inr (.inr hcb)
    · rcases List.mem_append.1 (hp.mem_iff.1 hx) with h | h
      · exact .inl (List.mem_cons_of_mem _ h)
      · exact .inr (.inl (List.mem_cons_of_mem _ h))
  · refine ((k5.drew.mono (S' := In ((a :: ta.blocks) ++ (b :: tb.blocks))) (fun _ x => x.elim)).trans k6 (fun x hx => .inl ?_)).trans hW (fun x hx => ?_)
    · rcases List.mem_append.1 hx with h | h
      · exact List.mem_append_left _ (List.mem_cons_of_mem _ h)
      · exact List.mem_append_right _ (List.mem_cons_of_mem _ h)
    · rcases hx with rfl | rfl | rfl
      · exact .inr hcb
      · exact .inl (List.mem_append_left _ List.mem_cons_self)
      · exact .inl (List.mem_append_right _ List.mem_cons_self)

set_option maxHeartbeats 8000000 in
set_option maxRecDepth 100000 in
theorem join_maps {base : Nat} {w : World} {a b : Nat} {seed : Int} {la lb : PairL} {F G : List Nat} (ha : MSt base w a seed la F) (hb : MSt base w b seed lb G) (hap : ∀ x ∈ F, x ∉ G) (hbase : base ≤ w.heap.size) (hsz : la.length + lb.length ≤ 90000) :
    Calls Try.prog 49 #[.pointer (some ⟨a, 0, none⟩), .pointer (some ⟨b, 0, none⟩)] w (MJoin base w a b seed la lb F G) := by
  have HKN := Lib.hid (kin_any ha hb)
  have HLA := Lib.hid (fun W (h : Keep No w W) => len_any (ha.new_ h))
  have HLB := Lib.hid (fun W (h : Keep No w W) => len_any (hb.new_ h))
  have hne : a ≠ b := by
    obtain ⟨_, h1, _, _, rfl⟩ := ha
    obtain ⟨_, h2, _, _, rfl⟩ := hb
    intro e
    exact hap a List.mem_cons_self (e ▸ List.mem_cons_self)
  have hne2 : b ≠ a := hne.symm
  obtain ⟨ta, hOa, hwa, rfl, rfl⟩ := ha
  obtain ⟨tb, hOb, hwb, rfl, rfl⟩ := hb
  obtain ⟨z1, hz1⟩ : ∃ z : Int, z = ((ta.toList.length : Nat) : Int) := ⟨_, rfl⟩
  obtain ⟨z2, hz2⟩ : ∃ z : Int, z = ((tb.toList.length : Nat) : Int) := ⟨_, rfl⟩
  rw [← hz1] at HLA
  rw [← hz2] at HLB
  have hfull : decide ((100000 : Int) < z1 + z2) = false := decide_eq_false (by omega)
  have hwr : IntKind.i64.wrap (z1 + z2) = z1 + z2 := wrap_i64_fit (by omega) (by omega)
  have HSZ := Lib.hid (show ta.size + tb.size < 1000000000 from by rw [toList_length, toList_length] at hsz; omega)
  have HZ := Lib.hid (show _ ∧ _ from ⟨hz1, hz2⟩)
  clear hz1 hz2 hsz
  obtain ⟨_, a1, a2⟩ := hOa.has.cells
  obtain ⟨_, _, b2⟩ := hOb.has.cells
  have hal := hOa.has.2.lt
  have hbl := hOb.has.2.lt
  have HO := Lib.hid (show _ ∧ _ ∧ _ ∧ _ from ⟨hOa, hOb, hwa, hwb⟩)
  have HAP := Lib.hid hap
  obtain ⟨jm, hjm, hjs⟩ := info_map
  have HPE := Lib.hid (fun q => run_eql_ptr_other (P := Try.prog) (w.drewN q) (a := ⟨a, 0, none⟩) (b := ⟨b, 0, none⟩) Try.underlying38 hjm hjs (fun e => hne (by injection e)) (Blk.drewN hOa.has.2 q) (Blk.drewN hOb.has.2 q))
  have HA2 := Lib.hid (fun W (h : Keep No w W) => (h.cell (p := ⟨a, 2, none⟩) hal (fun x => x)).trans a2)
  have HB2 := Lib.hid (fun W (h : Keep No w W) => (h.cell (p := ⟨b, 2, none⟩) hbl (fun x => x)).trans b2)
  have HA1 := Lib.hid (fun W (h : Keep No w W) => (h.cell (p := ⟨a, 1, none⟩) hal (fun x => x)).trans a1)
  clear a1 a2 b2 hjs hjm hOa hOb hwa hwb hap
  by_cases h1 : 0 < z1
  · have q1 : decide (0 < z1) = true := decide_eq_true h1
    by_cases h2 : 0 < z2
    · have q2 : decide (0 < z2) = true := decide_eq_true h2
      go_enter Try.func49, Try.ntmps49
      go_wp2_with fail
      refine HKN.out.mono ?_
      rintro e w' ⟨rfl, q, rfl⟩
      have hpe := HPE.out q
      have KQ := Lib.hid ((Keep.refl No w).drewN q)
      have a2 := HA2.out w (Keep.refl No w)
      have b2 := HB2.out w (Keep.refl No w)
      go_wp2_with (first | (go_at_call_of 27 (Value.pointer (some ⟨a, 0, none⟩)); refine (HLA.out _ KQ.out).mono ?_; rintro e w' ⟨rfl, rfl⟩) | (go_at_call_of 27 (Value.pointer (some ⟨b, 0, none⟩)); refine (HLB.out _ KQ.out).mono ?_; rintro e w' ⟨rfl, rfl⟩))
      go_quiet (fail)
      obtain ⟨W2, hW2⟩ : ∃ x, x = (w.drewN q).drewN nq := ⟨_, rfl⟩
      rw [← hW2]
      have KW := Lib.hid (show Keep No w W2 from by rw [hW2]; exact KQ.out.drewN nq)
      have DW := Lib.hid (show Drawn w W2 from by rw [hW2]; exact ⟨q + nq, World.drewN_drewN ..⟩)
      have NA := Lib.hid (show ta ≠ .nil from by rintro rfl; have := HZ.out.1; simp [AT.toList] at this; omega)
      have NB := Lib.hid (show tb ≠ .nil from by rintro rfl; have := HZ.out.2; simp [AT.toList] at this; omega)
      have NL := Lib.hid (show ta.toList ≠ [] ∧ tb.toList ≠ [] from ⟨fun e => by have := HZ.out.1; rw [e] at this; simp at this; omega, fun e => by have := HZ.out.2; rw [e] at this; simp at this; omega⟩)
      clear hW2 a2 b2 KQ hpe
      go_wp2_with fail
      go_loopg [6] ta.size (fun m v6 wr => ∃ s : AT, v6 = .pointer s.ptr ∧ Hid (s ≠ .nil) ∧ Hid (s.size = m) ∧ Hid (Rep base W2 seed s) ∧ Hid (lastKey s.toList = lastKey ta.toList) ∧ Hid (W2 = wr))
      case atStart => exact ⟨ta, rfl, NA, Lib.hid rfl, Lib.hid (HO.out.1.rep.new_ KW.out), Lib.hid rfl, Lib.hid rfl⟩
      case round =>
        obtain ⟨s, rfl, hn, hm, hr, hlk, hw⟩ := hrel
        obtain rfl := hw.out
        cases s with
        | nil => exact absurd rfl hn.out
        | node x1 k1 v1 l1 r1 =>
          rw [ptr_node]
          obtain ⟨A1, c1, _, _, hA1, _, e0, _, _, _, e4, _⟩ := hr.out.root.cells
          cases r1 with
          | node x2 k2 v2 l2 r2 =>
            rw [ptr_node] at e4
            have hsz := Lib.hid (show (AT.node x2 k2 v2 l2 r2).size < gk from by have := hm.out; simp only [AT.size] at this ⊢; omega)
            have hl2 := Lib.hid (show lastKey (AT.node x2 k2 v2 l2 r2).toList = lastKey ta.toList from by rw [← hlk.out, node_last node_ne])
            clear hA1 hlk hm hn
            go_wp2
            go_roundg (AT.node x2 k2 v2 l2 r2).size
            case measure => exact hsz.out
            case rel => exact ⟨.node x2 k2 v2 l2 r2, rfl, Lib.hid (by simp), Lib.hid rfl, Lib.hid hr.out.2.2, hl2, Lib.hid rfl⟩
          | nil =>
            rw [ptr_nil] at e4
            have hk1 := Lib.hid (show lastKey ta.toList = k1 from by rw [← hlk.out, AT.toList, lastKey_append (by simp)]; rfl)
            have HK1 := Lib.hid hA1
            clear hA1 hlk hm hn hr
            go_wp2
            go_loopg [7] tb.size (fun m v7 wr => ∃ s : AT, v7 = .pointer s.ptr ∧ Hid (s ≠ .nil) ∧ Hid (s.size = m) ∧ Hid (Rep base W2 seed s) ∧ Hid (firstKey s.toList = firstKey tb.toList) ∧ Hid (W2 = wr))
            case atStart => exact ⟨tb, rfl, NB, Lib.hid rfl, Lib.hid (HO.out.2.1.rep.new_ KW.out), Lib.hid rfl, Lib.hid rfl⟩
            case round =>
              obtain ⟨s, rfl, hn, hm, hr, hfk, hw⟩ := hrel
              obtain rfl := hw.out
              cases s with
              | nil => exact absurd rfl hn.out
              | node y1 kk vv ll rr =>
                rw [ptr_node]
                obtain ⟨A2, c2, _, _, hA2, _, g0, _, _, g3, _⟩ := hr.out.root.cells
                cases ll with
                | node y2 k2 v2 l2 r2 =>
                  rw [ptr_node] at g3
                  have hsz := Lib.hid (show (AT.node y2 k2 v2 l2 r2).size < gk from by have := hm.out; simp only [AT.size] at this ⊢; omega)
                  have hl2 := Lib.hid (show firstKey (AT.node y2 k2 v2 l2 r2).toList = firstKey tb.toList from by rw [← hfk.out, node_first node_ne])
                  clear hA2 hfk hm hn
                  go_wp2
                  go_roundg (AT.node y2 k2 v2 l2 r2).size
                  case measure => exact hsz.out
                  case rel => exact ⟨.node y2 k2 v2 l2 r2, rfl, Lib.hid (by simp), Lib.hid rfl, Lib.hid hr.out.2.1, hl2, Lib.hid rfl⟩
                | nil =>
                  rw [ptr_nil] at g3
                  have hk2 := Lib.hid (show firstKey tb.toList = kk from by rw [← hfk.out]; rfl)
                  have HC := Lib.hid (fun q => bcompare A1 A2 _ c1 _ c2 k1 kk (W2.drewN q) (HK1.out.drewN q) (hA2.drewN q))
                  have HFZ := Lib.hid (show fitsL ta.toList tb.toList = if ¬ Lt k1 kk then 7 else 0 from by
                    unfold fitsL
                    rw [hk1.out, hk2.out]
                    by_cases h : Lt k1 kk
                    · rw [if_neg (fun x => x.2.2 h), if_neg (fun x => x h)]
                    · rw [if_pos ⟨NL.out.1, NL.out.2, h⟩, if_pos h])
                  have HLL := Lib.hid (show Lt (lastKey ta.toList) (firstKey tb.toList) ↔ Lt k1 kk from by rw [hk1.out, hk2.out])
                  clear hA2 hfk hm hn hr HK1 hk1 hk2
                  by_cases hlt : Lt k1 kk
                  · have hz0 : Lib.compareBytes k1 kk < 0 := hlt
                    have HFIT := Lib.hid (show ta.toList = [] ∨ tb.toList = [] ∨ Lt (lastKey ta.toList) (firstKey tb.toList) from .inr (.inr (HLL.out.2 hlt)))
                    clear hlt
                    generalize Lib.compareBytes k1 kk = z at *
                    go_wp2_with fail
                    go_quiet ((go_at_call 61; exact (HC.out _).mono (fun e w' h => ⟨h.1, _, h.2.symm⟩)))
                    have KT := Lib.hid (KW.out.drewN nq)
                    have a1 := HA1.out _ KT.out
                    go_wp2_with (first | (go_at_call_of 27 (Value.pointer (some ⟨a, 0, none⟩)); refine (HLA.out _ KT.out).mono ?_; rintro e w' ⟨rfl, rfl⟩) | (go_at_call_of 27 (Value.pointer (some ⟨b, 0, none⟩)); refine (HLB.out _ KT.out).mono ?_; rintro e w' ⟨rfl, rfl⟩))
                    refine (new_any seed _).mono ?_
                    rintro e w5 ⟨rfl, hw5⟩
                    have K5 := Lib.hid (show Keep No w w5 from by rw [hw5]; exact KT.out.alloc _)
                    obtain ⟨cb, hcbd⟩ : ∃ cb, cb = W2.heap.size := ⟨_, rfl⟩
                    have M5 := Lib.hid (show MapHas base w5 cb seed none from by rw [hw5, hcbd]; exact ⟨Nat.le_trans hbase KT.out.size, Blk.new _ _ _⟩)
                    have hcb : w.heap.size ≤ cb := by rw [hcbd]; exact KW.out.size
                    rw [show (W2.drewN nq).heap.size = cb from hcbd.symm]
                    clear hw5 hcbd
                    have hac : a ≠ cb := by omega
                    have hbc : b ≠ cb := by omega
                    have hca : cb ≠ a := hac.symm
                    have hcb2 : cb ≠ b := hbc.symm
                    have HMG := Lib.hid (merge_any (base := base) (seed := seed) (mb := cb) (root := none) _ ta tb w5.drew (Nat.le_refl _) (M5.out.keep ((Keep.refl No w5).drew) (fun x => x)) (HO.out.1.rep.new_ K5.out.drew) (HO.out.2.1.rep.new_ K5.out.drew) HO.out.1.nodup HO.out.2.1.nodup (fun x hx hy => HAP.out x (List.mem_cons_of_mem _ hx) (List.mem_cons_of_mem _ hy)) HSZ.out)
                    have HS5 := Lib.hid (show _ ∧ _ from ⟨HA2.out _ K5.out.drew, HB2.out _ K5.out.drew⟩)
                    have HFr := Lib.hid (fun W (k : Keep (In (ta.blocks ++ tb.blocks)) w5.drew W) => (show MapHas base W a seed ta.ptr ∧ MapHas base W b seed tb.ptr ∧ MapHas base W cb seed none from
                      ⟨(HO.out.1.has.keep K5.out.drew (fun x => x)).keep k (fun h => (List.mem_append.1 h).elim (HO.out.1.has.ne HO.out.1.rep) (fun h => HAP.out a List.mem_cons_self (List.mem_cons_of_mem _ h))),
                       (HO.out.2.1.has.keep K5.out.drew (fun x => x)).keep k (fun h => (List.mem_append.1 h).elim (fun h => HAP.out b (List.mem_cons_of_mem _ h) List.mem_cons_self) (HO.out.2.1.has.ne HO.out.2.1.rep)),
                       (M5.out.keep ((Keep.refl No w5).drew) (fun x => x)).keep k (fun h => by
                         have hx : cb < w.heap.size := (List.mem_append.1 h).elim (fun h => HO.out.1.rep.lt h) (fun h => HO.out.2.1.rep.lt h)
                         omega)⟩))
                    go_wp2_with fail
                    go_region_held3 (fun w' => w'.cell? ⟨a, 2, none⟩ = some (.pointer ta.ptr) ∧ w'.cell? ⟨b, 2, none⟩ = some (.pointer tb.ptr))
                      (first
                        | with_reducible exact HS7.out _
                        | with_reducible exact HS6.out
                        | with_reducible exact HS5.out
                        | fail)
                      (first
                        | (go_at_call 87; refine HMG.out.mono ?_; rintro e w6 ⟨rfl, r6, k6⟩; obtain ⟨N1, N2, N3⟩ := HFr.out _ k6; obtain ⟨_, _, x1⟩ := N1.cells; obtain ⟨_, _, x2⟩ := N2.cells; obtain ⟨_, _, x3⟩ := N3.cells; have y1 := N1.2.frozen 2; have y2 := N2.2.frozen 2; have y3 := N3.2.frozen 2; have HS6 := Lib.hid (show _ ∧ _ from ⟨x1, x2⟩); have HS7 := Lib.hid (fun u => (show _ ∧ _ from ⟨(far_block w6 ⟨cb, 2, none⟩ ⟨a, 2, none⟩ u hac).trans x1, (far_block w6 ⟨cb, 2, none⟩ ⟨b, 2, none⟩ u hbc).trans x2⟩)); have H6 := Lib.hid (show _ ∧ _ from ⟨r6, k6⟩); clear r6 k6 N1 N2 N3)
                        | fail)
                    go_wp2
                    go_ret2
                    exact join_end HO.out.1 HO.out.2.1 HO.out.2.2.1 HO.out.2.2.2 HAP.out HFIT.out K5.out M5.out hcb H6.out.1 H6.out.2
                  · have hz0 : ¬ Lib.compareBytes k1 kk < 0 := hlt
                    have h7 := Lib.hid (show fitsL ta.toList tb.toList = 7 from by rw [HFZ.out, if_pos hlt])
                    clear hlt
                    generalize Lib.compareBytes k1 kk = z at *
                    go_wp2_with fail
                    go_quiet ((go_at_call 61; exact (HC.out _).mono (fun e w' h => ⟨h.1, _, h.2.symm⟩)))
                    go_wp2
                    go_ret2
                    exact mjoin_no h7.out (by decide) (DW.out.step nq)
    · have q2 : decide (0 < z2) = false := decide_eq_false h2
      have HFIT := Lib.hid (show ta.toList = [] ∨ tb.toList = [] ∨ Lt (lastKey ta.toList) (firstKey tb.toList) from .inr (.inl (List.eq_nil_of_length_eq_zero (by have := HZ.out.2; omega))))
      go_enter Try.func49, Try.ntmps49
      go_wp2_with fail
      refine HKN.out.mono ?_
      rintro e w' ⟨rfl, q, rfl⟩
      have hpe := HPE.out q
      have KT := Lib.hid ((Keep.refl No w).drewN q)
      have a1 := HA1.out _ KT.out
      go_wp2_with (first | (go_at_call_of 27 (Value.pointer (some ⟨a, 0, none⟩)); refine (HLA.out _ KT.out).mono ?_; rintro e w' ⟨rfl, rfl⟩) | (go_at_call_of 27 (Value.pointer (some ⟨b, 0, none⟩)); refine (HLB.out _ KT.out).mono ?_; rintro e w' ⟨rfl, rfl⟩))
      refine (new_any seed _).mono ?_
      rintro e w5 ⟨rfl, hw5⟩
      have K5 := Lib.hid (show Keep No w w5 from by rw [hw5]; exact KT.out.alloc _)
      obtain ⟨cb, hcbd⟩ : ∃ cb, cb = w.heap.size := ⟨_, rfl⟩
      have M5 := Lib.hid (show MapHas base w5 cb seed none from by rw [hw5, hcbd]; exact ⟨Nat.le_trans hbase KT.out.size, Blk.new _ _ _⟩)
      have hcb : w.heap.size ≤ cb := by rw [hcbd]; exact Nat.le_refl _
      rw [show (w.drewN q).heap.size = cb from hcbd.symm]
      clear hw5 hcbd
      have hac : a ≠ cb := by omega
      have hbc : b ≠ cb := by omega
      have hca : cb ≠ a := hac.symm
      have hcb2 : cb ≠ b := hbc.symm
      have HMG := Lib.hid (merge_any (base := base) (seed := seed) (mb := cb) (root := none) _ ta tb w5.drew (Nat.le_refl _) (M5.out.keep ((Keep.refl No w5).drew) (fun x => x)) (HO.out.1.rep.new_ K5.out.drew) (HO.out.2.1.rep.new_ K5.out.drew) HO.out.1.nodup HO.out.2.1.nodup (fun x hx hy => HAP.out x (List.mem_cons_of_mem _ hx) (List.mem_cons_of_mem _ hy)) HSZ.out)
      have HS5 := Lib.hid (show _ ∧ _ from ⟨HA2.out _ K5.out.drew, HB2.out _ K5.out.drew⟩)
      have HFr := Lib.hid (fun W (k : Keep (In (ta.blocks ++ tb.blocks)) w5.drew W) => (show MapHas base W a seed ta.ptr ∧ MapHas base W b seed tb.ptr ∧ MapHas base W cb seed none from
        ⟨(HO.out.1.has.keep K5.out.drew (fun x => x)).keep k (fun h => (List.mem_append.1 h).elim (HO.out.1.has.ne HO.out.1.rep) (fun h => HAP.out a List.mem_cons_self (List.mem_cons_of_mem _ h))),
         (HO.out.2.1.has.keep K5.out.drew (fun x => x)).keep k (fun h => (List.mem_append.1 h).elim (fun h => HAP.out b (List.mem_cons_of_mem _ h) List.mem_cons_self) (HO.out.2.1.has.ne HO.out.2.1.rep)),
         (M5.out.keep ((Keep.refl No w5).drew) (fun x => x)).keep k (fun h => by
           have hx : cb < w.heap.size := (List.mem_append.1 h).elim (fun h => HO.out.1.rep.lt h) (fun h => HO.out.2.1.rep.lt h)
           omega)⟩))
      go_wp2_with fail
      go_region_held3 (fun w' => w'.cell? ⟨a, 2, none⟩ = some (.pointer ta.ptr) ∧ w'.cell? ⟨b, 2, none⟩ = some (.pointer tb.ptr))
        (first
          | with_reducible exact HS7.out _
          | with_reducible exact HS6.out
          | with_reducible exact HS5.out
          | fail)
        (first
          | (go_at_call 87; refine HMG.out.mono ?_; rintro e w6 ⟨rfl, r6, k6⟩; obtain ⟨N1, N2, N3⟩ := HFr.out _ k6; obtain ⟨_, _, x1⟩ := N1.cells; obtain ⟨_, _, x2⟩ := N2.cells; obtain ⟨_, _, x3⟩ := N3.cells; have y1 := N1.2.frozen 2; have y2 := N2.2.frozen 2; have y3 := N3.2.frozen 2; have HS6 := Lib.hid (show _ ∧ _ from ⟨x1, x2⟩); have HS7 := Lib.hid (fun u => (show _ ∧ _ from ⟨(far_block w6 ⟨cb, 2, none⟩ ⟨a, 2, none⟩ u hac).trans x1, (far_block w6 ⟨cb, 2, none⟩ ⟨b, 2, none⟩ u hbc).trans x2⟩)); have H6 := Lib.hid (show _ ∧ _ from ⟨r6, k6⟩); clear r6 k6 N1 N2 N3)
          | fail)
      go_wp2
      go_ret2
      exact join_end HO.out.1 HO.out.2.1 HO.out.2.2.1 HO.out.2.2.2 HAP.out HFIT.out K5.out M5.out hcb H6.out.1 H6.out.2
  · have q1 : decide (0 < z1) = false := decide_eq_false h1
    have HFIT := Lib.hid (show ta.toList = [] ∨ tb.toList = [] ∨ Lt (lastKey ta.toList) (firstKey tb.toList) from .inl (List.eq_nil_of_length_eq_zero (by have := HZ.out.1; omega)))
    go_enter Try.func49, Try.ntmps49
    go_wp2_with fail
    refine HKN.out.mono ?_
    rintro e w' ⟨rfl, q, rfl⟩
    have hpe := HPE.out q
    have KT := Lib.hid ((Keep.refl No w).drewN q)
    have a1 := HA1.out _ KT.out
    go_wp2_with (first | (go_at_call_of 27 (Value.pointer (some ⟨a, 0, none⟩)); refine (HLA.out _ KT.out).mono ?_; rintro e w' ⟨rfl, rfl⟩) | (go_at_call_of 27 (Value.pointer (some ⟨b, 0, none⟩)); refine (HLB.out _ KT.out).mono ?_; rintro e w' ⟨rfl, rfl⟩))
    refine (new_any seed _).mono ?_
    rintro e w5 ⟨rfl, hw5⟩
    have K5 := Lib.hid (show Keep No w w5 from by rw [hw5]; exact KT.out.alloc _)
    obtain ⟨cb, hcbd⟩ : ∃ cb, cb = w.heap.size := ⟨_, rfl⟩
    have M5 := Lib.hid (show MapHas base w5 cb seed none from by rw [hw5, hcbd]; exact ⟨Nat.le_trans hbase KT.out.size, Blk.new _ _ _⟩)
    have hcb : w.heap.size ≤ cb := by rw [hcbd]; exact Nat.le_refl _
    rw [show (w.drewN q).heap.size = cb from hcbd.symm]
    clear hw5 hcbd
    have hac : a ≠ cb := by omega
    have hbc : b ≠ cb := by omega
    have hca : cb ≠ a := hac.symm
    have hcb2 : cb ≠ b := hbc.symm
    have HMG := Lib.hid (merge_any (base := base) (seed := seed) (mb := cb) (root := none) _ ta tb w5.drew (Nat.le_refl _) (M5.out.keep ((Keep.refl No w5).drew) (fun x => x)) (HO.out.1.rep.new_ K5.out.drew) (HO.out.2.1.rep.new_ K5.out.drew) HO.out.1.nodup HO.out.2.1.nodup (fun x hx hy => HAP.out x (List.mem_cons_of_mem _ hx) (List.mem_cons_of_mem _ hy)) HSZ.out)
    have HS5 := Lib.hid (show _ ∧ _ from ⟨HA2.out _ K5.out.drew, HB2.out _ K5.out.drew⟩)
    have HFr := Lib.hid (fun W (k : Keep (In (ta.blocks ++ tb.blocks)) w5.drew W) => (show MapHas base W a seed ta.ptr ∧ MapHas base W b seed tb.ptr ∧ MapHas base W cb seed none from
      ⟨(HO.out.1.has.keep K5.out.drew (fun x => x)).keep k (fun h => (List.mem_append.1 h).elim (HO.out.1.has.ne HO.out.1.rep) (fun h => HAP.out a List.mem_cons_self (List.mem_cons_of_mem _ h))),
       (HO.out.2.1.has.keep K5.out.drew (fun x => x)).keep k (fun h => (List.mem_append.1 h).elim (fun h => HAP.out b (List.mem_cons_of_mem _ h) List.mem_cons_self) (HO.out.2.1.has.ne HO.out.2.1.rep)),
       (M5.out.keep ((Keep.refl No w5).drew) (fun x => x)).keep k (fun h => by
         have hx : cb < w.heap.size := (List.mem_append.1 h).elim (fun h => HO.out.1.rep.lt h) (fun h => HO.out.2.1.rep.lt h)
         omega)⟩))
    go_wp2_with fail
    go_region_held3 (fun w' => w'.cell? ⟨a, 2, none⟩ = some (.pointer ta.ptr) ∧ w'.cell? ⟨b, 2, none⟩ = some (.pointer tb.ptr))
      (first
        | with_reducible exact HS7.out _
        | with_reducible exact HS6.out
        | with_reducible exact HS5.out
        | fail)
      (first
        | (go_at_call 87; refine HMG.out.mono ?_; rintro e w6 ⟨rfl, r6, k6⟩; obtain ⟨N1, N2, N3⟩ := HFr.out _ k6; obtain ⟨_, _, x1⟩ := N1.cells; obtain ⟨_, _, x2⟩ := N2.cells; obtain ⟨_, _, x3⟩ := N3.cells; have y1 := N1.2.frozen 2; have y2 := N2.2.frozen 2; have y3 := N3.2.frozen 2; have HS6 := Lib.hid (show _ ∧ _ from ⟨x1, x2⟩); have HS7 := Lib.hid (fun u => (show _ ∧ _ from ⟨(far_block w6 ⟨cb, 2, none⟩ ⟨a, 2, none⟩ u hac).trans x1, (far_block w6 ⟨cb, 2, none⟩ ⟨b, 2, none⟩ u hbc).trans x2⟩)); have H6 := Lib.hid (show _ ∧ _ from ⟨r6, k6⟩); clear r6 k6 N1 N2 N3)
        | fail)
    go_wp2
    go_ret2
    exact join_end HO.out.1 HO.out.2.1 HO.out.2.2.1 HO.out.2.2.2 HAP.out HFIT.out K5.out M5.out hcb H6.out.1 H6.out.2
end Go.Proofs.Ytdmckjojeddaaaa
