/- Contract of order's ordered at api.Pair: the pairs in order, each in blocks of its own. Conditions: it names its own. -/
import Derived.Test.YtdmckjojeddaaaaU3
import Derived.Deep.RegionHeld3
namespace Go.Proofs.Ytdmckjojeddaaaa
open Go.RowKit Go.Proofs.YtdmckjojeddaaaaKit Go.Proofs.YtdmckjojeddaaaaPlain

/-- A pair whose bytes lie in blocks of its own, from lo on and below hi. -/
def PairAt (w : World) (lo hi : Nat) (p : Pair) (cs : List Value) : Prop :=
  ∃ A c B d, cs = [.slice A p.1.length c, .slice B p.2.length d] ∧ w.ownsRow lo 5 1 (.slice A p.1.length c) p.1.length (byteVs p.1) ∧ w.ownsRow lo 5 1 (.slice B p.2.length d) p.2.length (byteVs p.2) ∧
    (∀ k, (Value.slice A p.1.length c).ownBlock = some k → k < hi) ∧ (∀ k, (Value.slice B p.2.length d).ownBlock = some k → k < hi) ∧
    (∀ x, (Value.slice A p.1.length c).ownBlock = some x → (Value.slice B p.2.length d).ownBlock ≠ some x) ∧ p.1.length ≤ c ∧ p.2.length ≤ d
def FlatI (w : World) : Nat → List Pair → List Value → Nat → Prop
  | lo, [], xs, hi => xs = [] ∧ lo ≤ hi
  | lo, p :: l, xs, hi => ∃ mid cs ys, xs = cs ++ ys ∧ lo ≤ mid ∧ PairAt w lo mid p cs ∧ FlatI w mid l ys hi
/-- What may have changed is of no type of bytes. -/
def NoBytes (w : World) (S : Nat → Prop) : Prop := ∀ b, S b → ∃ cs t f, w.heap[b]? = some (.cells cs t f) ∧ t ≠ 5
section
variable {w w1 : World} {lo mid hi : Nat} {p : Pair} {cs : List Value} {l : List Pair} {xs : List Value} {S : Nat → Prop}
theorem own_noBytes {base n : Nat} {v : Value} {ys : List Value} (h : w.ownsRow base 5 1 v n ys) (hs : NoBytes w S) : ∀ k, v.ownBlock = some k → ¬ S k := fun k e hk => by
  obtain ⟨cs, t, f, hh, ht⟩ := hs k hk
  rcases h.2 with ⟨rfl, _⟩ | ⟨g, cap, cur, rfl, h3, h4, _⟩
  · simp [Value.ownBlock] at e
  · simp [Value.ownBlock] at e
    subst e
    rw [h4] at hh
    injection hh with hh
    injection hh with _ hh
    exact ht hh.symm
theorem PairAt.keep (h : PairAt w lo hi p cs) (hk : Keep S w w1) (hs : NoBytes w S) : PairAt w1 lo hi p cs := by
  obtain ⟨A, c, B, d, e, h1, h2, h3⟩ := h
  exact ⟨A, c, B, d, e, own_keep h1 hk (own_noBytes h1 hs), own_keep h2 hk (own_noBytes h2 hs), h3⟩
theorem FlatI.keep (h : FlatI w lo l xs hi) (hk : Keep S w w1) (hs : NoBytes w S) : FlatI w1 lo l xs hi := by
  induction l generalizing lo xs with
  | nil => exact h
  | cons p l ih =>
    obtain ⟨mid, cs, ys, e, h1, h2, h3⟩ := h
    exact ⟨mid, cs, ys, e, h1, h2.keep hk hs, ih h3⟩
theorem FlatI.high {hi' : Nat} (h : FlatI w lo l xs hi) (hh : hi ≤ hi') : FlatI w lo l xs hi' := by
  induction l generalizing lo xs with
  | nil => exact ⟨h.1, Nat.le_trans h.2 hh⟩
  | cons p l ih =>
    obtain ⟨mid, cs, ys, e, h1, h2, h3⟩ := h
    exact ⟨mid, cs, ys, e, h1, h2, ih h3⟩
theorem FlatI.le (h : FlatI w lo l xs hi) : lo ≤ hi := by
  induction l generalizing lo xs with
  | nil => exact h.2
  | cons p l ih =>
    obtain ⟨mid, cs, ys, e, h1, h2, h3⟩ := h
    exact Nat.le_trans h1 (ih h3)
theorem FlatI.snoc (h : FlatI w lo l xs mid) (hp : PairAt w mid hi p cs) (hm : mid ≤ hi) : FlatI w lo (l ++ [p]) (xs ++ cs) hi := by
  induction l generalizing lo xs with
  | nil =>
    obtain ⟨rfl, hle⟩ := h
    obtain ⟨A, c, B, d, rfl, h1, h2, h3, h4, h5⟩ := hp
    exact ⟨hi, _, [], by simp, Nat.le_trans hle hm, ⟨A, c, B, d, rfl, ownsRow_weak h1 hle, ownsRow_weak h2 hle, h3, h4, h5⟩, rfl, Nat.le_refl _⟩
  | cons q l ih =>
    obtain ⟨m2, cs', ys, rfl, h1, h2, h3⟩ := h
    exact ⟨m2, cs', ys ++ cs, by simp, h1, h2, ih h3⟩
theorem PairAt.r (h : PairAt w lo hi p cs) (base : Nat) : PairR base w p cs := by
  obtain ⟨A, c, B, d, rfl, h1, h2, _, _, _, h6, h7⟩ := h
  exact ⟨A, c, B, d, rfl, Bytes.of_own h1, Bytes.of_own h2, h6, h7⟩
theorem FlatI.flat (h : FlatI w lo l xs hi) (base : Nat) : Flat (PairR base w) 2 l xs := by
  induction l generalizing lo xs with
  | nil => exact h.1
  | cons p l ih =>
    obtain ⟨mid, cs, ys, rfl, h1, h2, h3⟩ := h
    have hl : cs.length = 2 := by obtain ⟨A, c, B, d, rfl, _⟩ := h2; rfl
    exact ⟨cs, ys, rfl, hl, h2.r base, ih h3⟩
theorem FlatI.one (h : FlatI w lo l xs hi) : ∀ u ∈ xs, u.oneCell' = true := by
  induction l generalizing lo xs with
  | nil => rw [h.1]; intro u hu; cases hu
  | cons p l ih =>
    obtain ⟨mid, cs, ys, rfl, h1, ⟨A, c, B, d, rfl, _⟩, h3⟩ := h
    intro u hu
    rcases List.mem_append.1 hu with hu | hu
    · simp at hu; rcases hu with rfl | rfl <;> rfl
    · exact ih h3 u hu
end
/-- A row of pairs of the call's own, whose bytes lie in blocks of their own. -/
def OwnPI (B : Nat) (l : List Pair) (v : Value) (w : World) : Prop := ∃ xs, w.ownsRow B 82 2 v l.length xs ∧ FlatI w B l xs w.heap.size
section
variable {w w1 : World} {B : Nat} {l : List Pair} {v v1 : Value}
theorem OwnPI.start (h : B ≤ w.heap.size) : OwnPI B [] (.slice none 0 0) w := ⟨[], World.ownsRow_nil _ _ _ _, rfl, h⟩
theorem OwnPI.new_ (h : OwnPI B l v w) (hk : Keep No w w1) : OwnPI B l v w1 := by
  obtain ⟨xs, h1, h2⟩ := h
  exact ⟨xs, own_keep h1 hk (fun _ _ x => x), (h2.keep hk (fun _ x => x.elim)).high hk.size⟩
theorem OwnPI.ge (h : OwnPI B l v w) {k : Nat} (hk : v.ownBlock = some k) : B ≤ k := by obtain ⟨xs, h1, _⟩ := h; exact (World.ownsRow.lt h1 k hk).1
theorem OwnPI.shape (h : OwnPI B l v w) : ∃ A n c, v = .slice A n c ∧ Hid (n = l.length) ∧ n ≤ c := by
  obtain ⟨xs, h1, _⟩ := h
  obtain ⟨A, c, e, hc⟩ := own_slice h1
  exact ⟨A, _, c, e, Lib.hid rfl, hc⟩
/-- One pair more: its bytes were laid between w and w1, its own block behind them. -/
theorem OwnPI.push {w2 : World} {p : Pair} {A A' : Option Addr} {c d : Nat} {xs : List Value} (h1 : w.ownsRow B 82 2 v l.length xs) (h2 : FlatI w B l xs w.heap.size) (tw : Twin w p.1 p.2 A A' c d w1)
    (hown : w2.ownsRow B 82 2 v1 (l.length + 1) (xs ++ [.slice A p.1.length c, .slice A' p.2.length d])) (hg : (w1.alloc (.cells #[.slice A p.1.length c, .slice A' p.2.length d] 82)).grownBy w2 v.ownBlock) :
    OwnPI B (l ++ [p]) v1 w2 := by
  obtain ⟨t1, t2, t3, t4, t5, tk⟩ := tw
  have hk : Keep (fun b => v.ownBlock = some b) w1 w2 := ((Keep.refl (fun b => v.ownBlock = some b) w1).alloc _).grown hg (fun k e => .inl e)
  have hnb : NoBytes w1 (fun b => v.ownBlock = some b) := fun b e => by
    have := own_keep h1 tk (fun _ _ x => x)
    rcases this.2 with ⟨rfl, _⟩ | ⟨g, cap, cur, rfl, _, h4, _⟩
    · simp [Value.ownBlock] at e
    · simp [Value.ownBlock] at e
      subst e
      exact ⟨cur, _, _, h4, by decide⟩
  have hp : PairAt w1 w.heap.size w1.heap.size p [.slice A p.1.length c, .slice A' p.2.length d] := ⟨A, c, A', d, rfl, t1, t2, fun k e => (World.ownsRow.lt t1 k e).2, fun k e => (World.ownsRow.lt t2 k e).2, t3, t4, t5⟩
  exact ⟨_, by rw [List.length_append]; exact hown, (((h2.keep tk (fun _ x => x.elim)).snoc hp tk.size).keep hk hnb).high hk.size⟩
end

theorem pairblk_results {w : World} {g : Nat} {cs : Array Value} (h : Blk w g 82 cs) : Blk w g 82 cs := h

set_option maxHeartbeats 1000000 in
set_option maxRecDepth 100000 in
theorem take_any {base : Nat} {w : World} {seed : Int} {b : Nat} {k v : List UInt8} {lp rp : Option Addr} {sz dg : Int} (h : Node base w seed b k v lp rp sz dg) :
    Calls Try.prog 81 #[.pointer (some ⟨b, 0, none⟩)] w fun e w' =>
      ∃ A c B d, e = .returned (.agg #[.slice A k.length c, .slice B v.length d]) ∧ Twin w k v A B c d w' := by
  have k0 : Keep No w (w.alloc (.cells #[.slice none 0 0, .slice none 0 0] 82)) := (Keep.refl No w).alloc _
  have B0 : Blk (w.alloc (.cells #[.slice none 0 0, .slice none 0 0] 82)) w.heap.size 82 #[.slice none 0 0, .slice none 0 0] := Blk.new _ _ _
  have HP := Lib.hid (pair_any (h.keep k0 (fun _ x => x.elim) (fun x => x)))
  have H0 := Lib.hid (show _ ∧ _ from ⟨k0, B0⟩)
  have hz : (w.alloc (.cells #[.slice none 0 0, .slice none 0 0] 82)).heap.size = w.heap.size + 1 := by simp
  have HZ := Lib.hid hz
  clear h k0 B0 hz
  go_enter Try.func81, Try.ntmps81
  go_wp2_with fail
  refine HP.out.mono ?_
  rintro e w1 ⟨A, c, B, d, rfl, tw⟩
  have B1 := H0.out.2.keep tw.2.2.2.2.2 (fun x => x)
  have g0 := B1.cell 0
  have g1 := B1.cell 1
  have gf := B1.frozen
  simp only [List.getElem?_toArray, List.getElem?_cons_zero, List.getElem?_cons_succ] at g0 g1
  have HT := Lib.hid (show _ ∧ _ from ⟨tw, B1⟩)
  clear tw B1 HP
  go_wp2_with fail
  obtain ⟨tw, B1⟩ := HT.out
  refine bodyPost_ret (results_cell_row rfl _ _ w.heap.size 82 #[.slice A k.length c, .slice B v.length d] (0, 0) _ rfl ((B1.set_ 0 _).set_ 1 _) Try.underlying82 rfl info_size_pair) rfl ?_
  refine ⟨A, c, B, d, rfl, ?_⟩
  obtain ⟨t1, t2, t3, t4, t5, t6⟩ := tw
  have hk : Keep (fun b => b = w.heap.size) w1 ((w1.setCell ⟨w.heap.size, 0, none⟩ (.slice A k.length c)).setCell ⟨w.heap.size, 1, none⟩ (.slice B v.length d)) :=
    ((Keep.refl (fun b => b = w.heap.size) w1).setCell (p := ⟨w.heap.size, 0, none⟩) (.inl rfl) _).setCell (p := ⟨w.heap.size, 1, none⟩) (.inl rfl) _
  exact ⟨ownsRow_weak (own_keep t1 hk (fun x e hx => by have := (World.ownsRow.lt t1 x e).1; rw [HZ.out] at this; omega)) (by rw [HZ.out]; omega), ownsRow_weak (own_keep t2 hk (fun x e hx => by have := (World.ownsRow.lt t2 x e).1; rw [HZ.out] at this; omega)) (by rw [HZ.out]; omega), t3, t4, t5,
    (H0.out.1.trans t6 (fun _ x => x.elim)).trans hk (fun x e => .inr (by rw [show x = w.heap.size from e]; exact Nat.le_refl _))⟩

/-- What ordered leaves. -/
def OrdRet (B : Nat) (W0 : World) (l : List Pair) (e : Ending) (w' : World) : Prop :=
  ∃ A c, e = .returned (.slice A l.length c) ∧ l.length ≤ c ∧ OwnPI B l (.slice A l.length c) w' ∧ Keep No W0 w'
set_option maxHeartbeats 2000000 in
set_option maxRecDepth 100000 in
theorem ordered_any {base : Nat} {W0 : World} {seed : Int} (hb : base ≤ W0.heap.size) (t : AT) (hrep : Rep base W0 seed t) : ∀ (w : World) (l : List Pair) (v : Value),
    Keep No W0 w → OwnPI W0.heap.size l v w → l.length + t.size ≤ 1000000 →
    Calls Try.prog 80 #[.pointer t.ptr, v, .func (.func 81) #[] #[]] w (OrdRet W0.heap.size W0 (l ++ t.toList)) := by
  have _hb := hb
  clear _hb
  induction t with
  | nil =>
    intro w l v hk ho _
    have H := Lib.hid (show _ ∧ _ from ⟨hk, ho⟩)
    clear hk ho
    rw [ptr_nil]
    go_enter Try.func80, Try.ntmps80
    go_wp2
    go_ret
    obtain ⟨hk, ho⟩ := H.out
    obtain ⟨A, n, c, rfl, hn, hcc⟩ := ho.shape
    obtain rfl := hn.out
    have e0 : l ++ AT.nil.toList = l := by simp [AT.toList]
    rw [e0]
    exact ⟨A, c, rfl, hcc, ho, hk⟩
  | node b k v l r ihl ihr =>
    intro w L V hk ho hl1
    obtain ⟨i0, hi0, hz0, hz1, hz2⟩ := info_parts info_pair
    have hszs : L.length + 1 + l.size + r.size ≤ 1000000 := by simp only [AT.size] at hl1; omega
    have hreps : ∀ w', Keep No W0 w' → Rep base w' seed (.node b k v l r) := fun w' hk' => hrep.new_ hk'
    obtain ⟨L1, hL1⟩ : ∃ L1, L1 = L ++ l.toList := ⟨_, rfl⟩
    obtain ⟨L4, hL4⟩ : ∃ L4, L4 = L ++ (AT.node b k v l r).toList := ⟨_, rfl⟩
    have hl1' : L1.length = L.length + l.size := by rw [hL1, List.length_append, toList_length]
    have hl4 : L4 = (L1 ++ [(k, v)]) ++ r.toList := by rw [hL4, hL1]; simp [AT.toList]
    have HL := Lib.hid (show ∀ w2 v2, Keep No W0 w2 → OwnPI W0.heap.size L v2 w2 → Calls Try.prog 80 #[.pointer l.ptr, v2, .func (.func 81) #[] #[]] w2 (OrdRet W0.heap.size W0 L1) from fun w2 v2 hk ho => hL1 ▸ ihl hrep.2.1 w2 L v2 hk ho (by omega))
    have HR := Lib.hid (show ∀ w3 v3, Keep No W0 w3 → OwnPI W0.heap.size (L1 ++ [(k, v)]) v3 w3 → Calls Try.prog 80 #[.pointer r.ptr, v3, .func (.func 81) #[] #[]] w3 (OrdRet W0.heap.size W0 L4) from fun w3 v3 hk ho => by
      rw [hl4]; exact ihr hrep.2.2 w3 _ v3 hk ho (by rw [List.length_append, hl1']; simp; omega))
    have HTK := Lib.hid (fun W (hk : Keep No W0 W) => take_any (hreps W hk).root)
    have HCL := Lib.hid (fun W (hk : Keep No W0 W) => (show W.cell? ⟨b, 3, none⟩ = some (.pointer l.ptr) ∧ W.cell? ⟨b, 4, none⟩ = some (.pointer r.ptr) from by
      obtain ⟨_, _, _, _, _, _, _, _, _, c3, c4, _⟩ := (hreps W hk).root.cells
      exact ⟨c3, c4⟩))
    have hL1s : L1.length ≤ 1000000 := by omega
    rw [← hL4]
    obtain ⟨c3, c4⟩ := HCL.out _ hk
    have HK := Lib.hid hk
    have HO := Lib.hid ho
    have tok1 : True := trivial
    have hzs : W0.heap.size ≤ w.heap.size := hk.size
    clear hk ho hreps ihl ihr hL1 hL4 hl1' hl4 hl1
    rw [ptr_node]
    go_enter Try.func80, Try.ntmps80
    go_wp2_with fail
    go_region_held3 (fun w' => w'.cell? ⟨b, 3, none⟩ = some (.pointer l.ptr) ∧ w'.cell? ⟨b, 4, none⟩ = some (.pointer r.ptr) ∧ Keep No W0 w')
      (first
        | exact ⟨c3, c4, HK.out.drew⟩
        | exact ⟨(HCL.out _ HKD.out).1, (HCL.out _ HKD.out).2, HKD.out⟩
        | exact ⟨(HCL.out _ (HKD.out.alloc _)).1, (HCL.out _ (HKD.out.alloc _)).2, HKD.out.alloc _⟩)
      (first
        | (go_at_call 80; have _t := tok1; refine (HL.out _ _ HK.out.drew (OwnPI.new_ HO.out ((Keep.refl No w).drew))).mono ?_; clear tok1; rintro e w1 ⟨A1, c1, rfl, hc1, O1, hk1⟩; have HKD := Lib.hid hk1; have G1 := Lib.hid O1; clear O1 hk1 _t)
        | (go_at_call 81; refine (HTK.out _ HKD.out).mono ?_; rintro e w2 ⟨A2, c2, B2, d2, rfl, tw⟩; have HK1 := HKD; have G2 := Lib.hid tw; have HKD := Lib.hid (HK1.out.trans tw.2.2.2.2.2 (fun _ x => False.elim x)); clear tw)
        | (obtain ⟨xs1, ho1, hf1⟩ := G1.out; (refine step_append_any _ (by rfl) _ _ _ (by rfl) W0.heap.size 82 i0 _ 2 48 Try.underlying35 hi0 hz0 hz1 hz2 rfl (by omega) _ L1.length xs1 (by rfl) ((own_keep ho1 G2.out.2.2.2.2.2 (fun _ _ x => x)).alloc _) base _ 1 1 [.slice A2 k.length c2, .slice B2 v.length d2] (by rfl) (rec_new (cs := [.slice A2 k.length c2, .slice B2 v.length d2]) rfl) (by simp [Value.oneCell']) (by simp only [maxLen]; omega) (by omega) (Keep.size (HKD.out.alloc _)) ?_); intro v3 w3 hown3 hg3 hat3; have G3 := Lib.hid (OwnPI.push (p := (k, v)) ho1 hf1 G2.out hown3 hg3); have HK2 := HKD; have HKD := Lib.hid ((HK2.out.alloc (.cells #[.slice A2 k.length c2, .slice B2 v.length d2] 82)).grown hg3 (fun x e => .inr ((World.ownsRow.lt ho1 x e).1))); clear hown3 hg3 hat3 ho1 hf1)
        | (go_at_call 80; refine (HR.out _ _ HKD.out G3.out).mono ?_; rintro e w4 hG; obtain ⟨A4, c4', rfl, hc4, O4, hk4⟩ := id hG; have HKD := Lib.hid hk4; have G4 := Lib.hid hG; clear hG O4 hk4))
    go_wp2
    go_ret
    exact G4.out
end Go.Proofs.Ytdmckjojeddaaaa
