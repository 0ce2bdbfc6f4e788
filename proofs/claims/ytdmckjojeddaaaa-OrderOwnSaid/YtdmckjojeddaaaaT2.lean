/- Contracts of order's fresh and above. Conditions: each names its own. -/
import Derived.Test.YtdmckjojeddaaaaT1
import Derived.Test.YtdmckjojeddaaaaC5
import Derived.BigQuiet
import Derived.Deep.RegionHeld3
namespace Go.Proofs.Ytdmckjojeddaaaa
open Go.RowKit Go.Proofs.YtdmckjojeddaaaaKit Go.Proofs.YtdmckjojeddaaaaPlain

/-- A pair stands above another one. -/
def aboveB (seed : Int) (k k2 : List UInt8) : Bool := if height seed k = height seed k2 then decide (Lt k k2) else decide (height seed k2 < height seed k)
theorem quiet_drawn {P : Program} {f : FuncId} {args : Array Value} {w : World} {a : Nat} {v : Value}
    (h : Calls P f args (w.drewN a) fun e w' => e = .returned v ∧ w.drewN a = w') :
    Calls P f args (w.drewN a) fun e w'' => e = .returned v ∧ ∃ m, w'' = w.drewN m :=
  h.mono fun _ _ ⟨he, hm⟩ => ⟨he, a, hm.symm⟩

theorem quiet_add_left {P : Program} {f : FuncId} {args : Array Value} {w : World} {a n : Nat} {v : Value}
    (h : Calls P f args (w.drewN (a + n)) fun e w' => e = .returned v ∧ w.drewN (a + n) = w') :
    Calls P f args (w.drewN (a + n)) fun e w'' => e = .returned v ∧ ∃ m, w'' = w.drewN (a + m) :=
  h.mono fun _ _ ⟨he, hm⟩ => ⟨he, n, hm.symm⟩

/-- A map's own block. -/
def MapHas (base : Nat) (w : World) (mb : Nat) (seed : Int) (root : Option Addr) : Prop := base ≤ mb ∧ Blk w mb 106 #[.bool true, .int .u64 seed, .pointer root]
section
variable {base : Nat} {w w1 : World} {seed : Int} {mb : Nat} {root : Option Addr} {S : Nat → Prop}
theorem MapHas.keep (h : MapHas base w mb seed root) (hk : Keep S w w1) (hn : ¬ S mb) : MapHas base w1 mb seed root := ⟨h.1, h.2.keep hk hn⟩
theorem MapHas.mut (h : MapHas base w mb seed root) : Mut base w mb := h.2.mut h.1 rfl
theorem MapHas.ne (h : MapHas base w mb seed root) {t : AT} (ht : Rep base w seed t) : mb ∉ t.blocks := by
  induction t with
  | nil => simp [AT.blocks]
  | node b k v l r ihl ihr =>
    obtain ⟨_, hb⟩ := ht.root.blk
    simp only [AT.blocks, List.mem_cons, List.mem_append, not_or]
    exact ⟨h.2.ne_ hb (by decide), ihl ht.2.1, ihr ht.2.2⟩
theorem MapHas.ne_node (h : MapHas base w mb seed root) {b : Nat} {k v : List UInt8} {lp rp : Option Addr} {sz dg : Int} (hn : Node base w seed b k v lp rp sz dg) : mb ≠ b := by
  obtain ⟨_, hb⟩ := hn.blk
  exact h.2.ne_ hb (by decide)
theorem MapHas.cells (h : MapHas base w mb seed root) : w.cell? ⟨mb, 0, none⟩ = some (.bool true) ∧ w.cell? ⟨mb, 1, none⟩ = some (.int .u64 seed) ∧ w.cell? ⟨mb, 2, none⟩ = some (.pointer root) := ⟨h.2.cell 0, h.2.cell 1, h.2.cell 2⟩
end

theorem far_cell (w : World) (b i j : Nat) (v : Value) (h : i ≠ j) : (w.setCell ⟨b, i, none⟩ v).drew.cell? ⟨b, j, none⟩ = w.cell? ⟨b, j, none⟩ :=
  World.cell?_setCell_other _ _ _ _ (fun e => h (congrArg Addr.off e))

theorem far_cell0 (w : World) (b i j : Nat) (v : Value) (h : i ≠ j) : (w.setCell ⟨b, i, none⟩ v).cell? ⟨b, j, none⟩ = w.cell? ⟨b, j, none⟩ :=
  World.cell?_setCell_other _ _ _ _ (fun e => h (congrArg Addr.off e))
theorem far_block (w : World) (p : Addr) (q : Addr) (v : Value) (h : q.block ≠ p.block) : (w.setCell p v).cell? q = w.cell? q :=
  World.cell?_setCell_other _ _ _ _ (fun e => h (congrArg Addr.block e).symm)
theorem Node.drew {base : Nat} {w : World} {seed : Int} {b : Nat} {k v : List UInt8} {lp rp : Option Addr} {sz dg : Int} (h : Node base w seed b k v lp rp sz dg) : Node base w.drew seed b k v lp rp sz dg := h

/-- The first two cells of what lay are as they were. -/
def Low (w w' : World) : Prop := w.heap.size ≤ w'.heap.size ∧ ∀ b i, b < w.heap.size → i ≤ 1 → w'.cell? ⟨b, i, none⟩ = w.cell? ⟨b, i, none⟩
theorem Low.no {w w' : World} (h : Keep No w w') : Low w w' := ⟨h.size, fun b i hb _ => h.cell (p := ⟨b, i, none⟩) hb (fun x => x)⟩
theorem Low.refl (w : World) : Low w w := .no (Keep.refl No w)
theorem Low.trans {w w1 w2 : World} (h : Low w w1) (k : Low w1 w2) : Low w w2 := ⟨Nat.le_trans h.1 k.1, fun b i hb hi => (k.2 b i (Nat.lt_of_lt_of_le hb h.1) hi).trans (h.2 b i hb hi)⟩
theorem Low.set {w w1 : World} (h : Low w w1) (b j : Nat) (hj : 2 ≤ j) (u : Value) : Low w (w1.setCell ⟨b, j, none⟩ u) :=
  ⟨by simp [World.setCell]; exact h.1, fun b' i hb hi => (World.cell?_setCell_other _ _ _ _ (fun e => by injection e with _ e; omega)).trans (h.2 b' i hb hi)⟩

set_option maxHeartbeats 4000000 in
set_option maxRecDepth 100000 in
theorem fresh_low {base : Nat} {w : World} {seed : Int} {mb b : Nat} {root : Option Addr} {k v : List UInt8} {l r : AT} {sz dg : Int} (hm : MapHas base w mb seed root) (hn : Node base w seed b k v l.ptr r.ptr sz dg)
    (hl : Rep base w seed l) (hr : Rep base w seed r) (hbl : b ∉ l.blocks) (hbr : b ∉ r.blocks) (hsz : l.size + r.size < 1000000000) :
    Calls Try.prog 100 #[.pointer (some ⟨mb, 0, none⟩), .pointer (some ⟨b, 0, none⟩)] w fun e w' =>
      e = .returned (.pointer (some ⟨b, 0, none⟩)) ∧ Rep base w' seed (.node b k v l r) ∧ Keep (Only b) w w' ∧ Low w w' := by
  obtain ⟨A, c, B, d, hA, hB, c0, c1, c2, c3, c4, c5, c6⟩ := hn.cells
  have f5 := hn.frozen 5
  have HN := Lib.hid hn
  have HM := Lib.hid hm
  have HL := Lib.hid hl
  have HR := Lib.hid hr
  clear hn hm hA hB hl hr
  go_enter Try.func100, Try.ntmps100
  go_wp2_with fail
  go_region_held3 (fun w' => w'.cell? ⟨b, 3, none⟩ = some (.pointer l.ptr) ∧ w'.cell? ⟨b, 4, none⟩ = some (.pointer r.ptr))
    (first | exact ⟨(far_cell w b 5 3 _ (by decide)).trans c3, (far_cell w b 5 4 _ (by decide)).trans c4⟩ | go_keep)
    (first
      | (go_at_call_of 68 (Value.pointer l.ptr); refine (count_any (HL.out.new_ ((Keep.refl No w).drew))).mono ?_; rintro e w' ⟨rfl, rfl⟩)
      | (go_at_call_of 68 (Value.pointer r.ptr); refine (count_any (HR.out.new_ ((Keep.refl No w).drew))).mono ?_; rintro e w' ⟨rfl, rfl⟩))
  have e5 : IntKind.i64.wrap (IntKind.i64.wrap (1 + (l.size : Int)) + (r.size : Int)) = (((AT.node b k v l r).size : Nat) : Int) := by
    rw [IntKind.wrap_i64, IntKind.wrap_i64]; simp only [AT.size]; omega
  rw [e5]
  clear e5
  obtain ⟨w1, hw1⟩ : ∃ x, x = (w.setCell ⟨b, 5, none⟩ (.int .i64 (((AT.node b k v l r).size : Nat) : Int))).drew := ⟨_, rfl⟩
  rw [← hw1]
  have K1 := Lib.hid (show Keep (Only b) w w1 from hw1 ▸ ((Keep.refl (Only b) w).setCell (p := ⟨b, 5, none⟩) (.inl rfl) _).drew)
  have LW1 := Lib.hid (show Low w w1 from hw1 ▸ ((Low.refl w).set b 5 (by omega) _).trans (Low.no (Keep.refl No _).drew))
  have N1 := HN.out.set5 (((AT.node b k v l r).size : Nat) : Int) |>.drew
  rw [← hw1] at N1
  have hmut : ∀ x, Only b x → Mut base w x := fun x e => e ▸ HN.out.mut
  have L1 := Lib.hid (HL.out.keep K1.out hmut (fun x hx e => hbl (e ▸ hx)))
  have R1 := Lib.hid (HR.out.keep K1.out hmut (fun x hx e => hbr (e ▸ hx)))
  have M1 := HM.out.keep K1.out (HM.out.ne_node HN.out)
  have hne := HM.out.ne_node HN.out
  have hbs := N1.lt
  have hms := M1.2.lt
  have s0 := AT.sum_nonneg seed l
  have s1 := AT.sum_nonneg seed r
  have hkv := HN.out.2.1
  have hk2 := hkv.2.1
  have hv2 := hkv.2.2
  clear hkv
  obtain ⟨A1, c1', B1, d1', hA, hB, c0', c1'', c2', c3', c4', c5', c6'⟩ := N1.cells
  have f6 := N1.frozen 6
  obtain ⟨m0, m1, m2⟩ := M1.cells
  have HN1 := Lib.hid N1
  have HA := Lib.hid hA
  have HB := Lib.hid hB
  clear HN HL HR HM hw1 N1 M1 hA hB c0 c1 c2 c3 c4 c5 c6 f5 m0 m2 c2' c5' hmut
  go_wp2_with fail
  go_region_held3 (fun w' => w'.cell? ⟨mb, 1, none⟩ = some (.int .u64 seed) ∧ w'.cell? ⟨b, 0, none⟩ = some (.slice A1 k.length c1') ∧ w'.cell? ⟨b, 1, none⟩ = some (.slice B1 v.length d1') ∧ w'.cell? ⟨b, 3, none⟩ = some (.pointer l.ptr) ∧ w'.cell? ⟨b, 4, none⟩ = some (.pointer r.ptr))
    (first
      | exact ⟨(hkd.cell (p := ⟨mb, 1, none⟩) hms (fun x => x)).trans m1, (hkd.cell (p := ⟨b, 0, none⟩) hbs (fun x => x)).trans c0', (hkd.cell (p := ⟨b, 1, none⟩) hbs (fun x => x)).trans c1'', (hkd.cell (p := ⟨b, 3, none⟩) hbs (fun x => x)).trans c3', (hkd.cell (p := ⟨b, 4, none⟩) hbs (fun x => x)).trans c4'⟩
      | exact ⟨m1, c0', c1'', c3', c4'⟩
      | (go_split_ands; exact ⟨(far_block _ _ _ _ hne).trans (by assumption), (far_cell0 _ b 6 0 _ (by decide)).trans (by assumption), (far_cell0 _ b 6 1 _ (by decide)).trans (by assumption), (far_cell0 _ b 6 3 _ (by decide)).trans (by assumption), (far_cell0 _ b 6 4 _ (by decide)).trans (by assumption)⟩)
      | go_keep)
    (first
      | (go_at_call_of 70 (Value.pointer l.ptr); refine (sum_any (L1.out.new_ ((Keep.refl No w1).drew))).mono ?_; rintro e w' ⟨rfl, rfl⟩)
      | (go_at_call_of 70 (Value.pointer r.ptr); refine (sum_any (R1.out.new_ ((Keep.refl No w1).drew))).mono ?_; rintro e w' ⟨rfl, rfl⟩)
      | (go_at_call 60; refine (digestOf_any seed _ _ _ _ _ _ _ _ k v _ (HA.out.drew) (HB.out.drew) (by omega) (by omega) s0 s1).mono ?_; rintro e w2 ⟨rfl, hkd⟩; have g6 := (hkd.cell (p := ⟨b, 6, none⟩) hbs (fun x => x)).trans c6'; have gf := (hkd.frozen (p := ⟨b, 6, none⟩) hbs (fun x => x)).trans f6))
  go_wp2
  go_ret
  have hk1 : Keep No w1 w2 := hkd.of_drew
  have N2 := (HN1.out.keep hk1 (fun _ x => x.elim) (fun x => x)).set6 (mark seed (l.sum seed) k v (r.sum seed))
  have hst : Keep (Only b) w1 (w2.setCell ⟨b, 6, none⟩ (.int .u64 (mark seed (l.sum seed) k v (r.sum seed)))) := (hk1.mono (S' := Only b) (fun _ x => x.elim)).setCell (p := ⟨b, 6, none⟩) (.inl rfl) _
  have hmut : ∀ x, Only b x → Mut base w1 x := fun x e => e ▸ HN1.out.mut
  exact ⟨rfl, ⟨N2, L1.out.keep hst hmut (fun x hx e => hbl (e ▸ hx)), R1.out.keep hst hmut (fun x hx e => hbr (e ▸ hx))⟩, K1.out.trans hst (fun x hx => .inl hx), (LW1.out.trans (Low.no hk1)).set b 6 (by omega) _⟩

theorem fresh_any {base : Nat} {w : World} {seed : Int} {mb b : Nat} {root : Option Addr} {k v : List UInt8} {l r : AT} {sz dg : Int} (hm : MapHas base w mb seed root) (hn : Node base w seed b k v l.ptr r.ptr sz dg)
    (hl : Rep base w seed l) (hr : Rep base w seed r) (hbl : b ∉ l.blocks) (hbr : b ∉ r.blocks) (hsz : l.size + r.size < 1000000000) :
    Calls Try.prog 100 #[.pointer (some ⟨mb, 0, none⟩), .pointer (some ⟨b, 0, none⟩)] w fun e w' =>
      e = .returned (.pointer (some ⟨b, 0, none⟩)) ∧ Rep base w' seed (.node b k v l r) ∧ Keep (Only b) w w' :=
  (fresh_low hm hn hl hr hbl hbr hsz).mono fun _ _ ⟨h1, h2, h3, _⟩ => ⟨h1, h2, h3⟩

set_option maxHeartbeats 1000000 in
set_option maxRecDepth 100000 in
theorem above_any {base : Nat} {w : World} {seed : Int} {b b2 : Nat} {k v k2 v2 : List UInt8} {lp rp lp2 rp2 : Option Addr} {sz dg sz2 dg2 : Int} (hn : Node base w seed b k v lp rp sz dg) (hm : Node base w seed b2 k2 v2 lp2 rp2 sz2 dg2) :
    Calls Try.prog 99 #[.pointer (some ⟨b, 0, none⟩), .pointer (some ⟨b2, 0, none⟩)] w fun e w' =>
      e = .returned (.bool (aboveB seed k k2)) ∧ Drawn w w' := by
  obtain ⟨A, c, B, d, hA, hB, c0, _, c2, _⟩ := hn.cells
  obtain ⟨A2, c', B2, d', hA2, hB2, c0', _, c2', _⟩ := hm.cells
  have H := Lib.hid (show _ ∧ _ from ⟨hA, hA2⟩)
  clear hn hm hA hB hA2 hB2
  by_cases h : height seed k = height seed k2
  · have h1 : (height seed k != height seed k2) = false := by simp [h]
    have h2 := Lib.hid h
    clear h
    go_enter Try.func99, Try.ntmps99
    go_wp2
    go_quiet (fail)
    go_wp2
    go_quiet ((go_at_call 61; exact quiet_add_left (bcompare A A2 _ c _ c' k k2 _ (H.out.1.drewN _) (H.out.2.drewN _))))
    go_wp2
    go_ret
    exact ⟨ret_bool (by rw [aboveB, if_pos h2.out]; rfl), ((Drawn.refl w).step _).step _⟩
  · have h1 : (height seed k != height seed k2) = true := by simp [h]
    have h2 := Lib.hid h
    clear h
    go_enter Try.func99, Try.ntmps99
    go_wp2
    go_quiet (fail)
    go_wp2
    go_quiet (fail)
    go_wp2
    go_ret
    exact ⟨ret_bool (by rw [aboveB, if_neg h2.out]), ((Drawn.refl w).step _).step _⟩

end Go.Proofs.Ytdmckjojeddaaaa

namespace Go.Proofs.Ytdmckjojeddaaaa
open Go.RowKit Go.Proofs.YtdmckjojeddaaaaKit Go.Proofs.YtdmckjojeddaaaaPlain

def AT.split (key : List UInt8) : AT → AT × AT
  | .nil => (.nil, .nil)
  | .node b k v l r => if Lt k key then (.node b k v l (split key r).1, (split key r).2) else ((split key l).1, .node b k v (split key l).2 r)

theorem split_perm (key : List UInt8) (t : AT) : ((t.split key).1.blocks ++ (t.split key).2.blocks).Perm t.blocks := by
  induction t with
  | nil => simp [AT.split, AT.blocks]
  | node b k v l r ihl ihr =>
    simp only [AT.split]
    split
    · simp only [AT.blocks, List.cons_append, List.append_assoc]
      exact List.Perm.cons _ (List.Perm.append_left _ ihr)
    · simp only [AT.blocks]
      refine (List.perm_middle).trans (List.Perm.cons _ ?_)
      rw [← List.append_assoc]
      exact List.Perm.append_right _ ihl
theorem split_size (key : List UInt8) (t : AT) : (t.split key).1.size + (t.split key).2.size = t.size := by
  induction t with
  | nil => rfl
  | node b k v l r ihl ihr =>
    simp only [AT.split]
    split <;> simp only [AT.size] <;> omega

theorem nodup_node {b : Nat} {k v : List UInt8} {l r : AT} (h : (AT.node b k v l r).blocks.Nodup) : b ∉ l.blocks ∧ b ∉ r.blocks ∧ l.blocks.Nodup ∧ r.blocks.Nodup ∧ ∀ x, x ∈ l.blocks → x ∉ r.blocks := by
  simp only [AT.blocks, List.nodup_cons, List.mem_append, not_or] at h
  obtain ⟨h1, h2⟩ := h
  rw [List.nodup_append] at h2
  exact ⟨h1.1, h1.2, h2.1, h2.2.1, fun x hx hy => h2.2.2 x hx x hy rfl⟩

theorem keep_in {base : Nat} {w w1 : World} {seed : Int} {t : AT} {l : List Nat} (h : Rep base w seed t) (hl : ∀ b ∈ l, Mut base w b) (hk : Keep (In l) w w1) (hd : ∀ b ∈ t.blocks, b ∉ l) : Rep base w1 seed t := h.keep hk hl hd

set_option maxHeartbeats 4000000 in
set_option maxRecDepth 100000 in
theorem split_low {base : Nat} {seed : Int} {mb : Nat} {root : Option Addr} (A : Option Addr) (n c : Nat) (key : List UInt8) (t : AT) : ∀ (w : World), MapHas base w mb seed root → Rep base w seed t → t.blocks.Nodup → Bytes base w A n key → t.size < 1000000000 →
    Calls Try.prog 86 #[.pointer (some ⟨mb, 0, none⟩), .pointer t.ptr, .slice A n c] w fun e w' =>
      e = .returned (.tuple #[.pointer (t.split key).1.ptr, .pointer (t.split key).2.ptr]) ∧ Rep base w' seed (t.split key).1 ∧ Rep base w' seed (t.split key).2 ∧ Keep (In t.blocks) w w' ∧ Low w w' := by
  induction t with
  | nil =>
    intro w _ _ _ _ _
    rw [ptr_nil]
    go_enter Try.func86, Try.ntmps86
    go_wp2
    go_ret2
    exact ⟨rfl, trivial, trivial, Keep.refl _ _, Low.refl _⟩
  | node b k v l r ihl ihr =>
    intro w hm ht hnd hk hsz
    have hN := ht.root
    obtain ⟨n1, n2, n3, n4, n5⟩ := nodup_node hnd
    obtain ⟨A1, c1, B1, d1, hA, hB, e0, e1, e2, e3, e4, e5, e6⟩ := hN.cells
    have hcmp := bcompare A1 A _ c1 _ c k key w hA hk
    rw [ptr_node]
    by_cases hlt : Lt k key
    · rw [cb_lt hlt] at hcmp
      have hsp : (AT.node b k v l r).split key = (.node b k v l (r.split key).1, (r.split key).2) := by simp [AT.split, hlt]
      rw [hsp]
      have hsz2 : r.size < 1000000000 := by simp only [AT.size] at hsz; omega
      have hsz3 : l.size + r.size < 1000000000 := by simp only [AT.size] at hsz; omega
      have HR := Lib.hid (ihr w hm ht.2.2 n4 hk hsz2)
      have HC := Lib.hid hcmp
      have HT := Lib.hid ht
      have HM := Lib.hid hm
      have hp := Lib.hid (split_perm key r)
      have hps := Lib.hid (split_size key r)
      generalize r.split key = q at *
      obtain ⟨lo, hi⟩ := q
      clear hcmp hm ht ihl ihr hA hB hk hN hsp hlt hnd e1 e2 e3 e5 e6
      go_enter Try.func86, Try.ntmps86
      go_wp2_with fail
      refine HC.out.mono ?_
      rintro e w' ⟨rfl, rfl⟩
      go_wp2_with fail
      refine HR.out.mono ?_
      rintro e w1 ⟨rfl, hlo, hhi, hk1, hl1⟩
      have HLo1 := Lib.hid hl1
      clear hl1
      have hmr : ∀ x, In r.blocks x → Mut base w x := fun x hx => HT.out.2.2.mut x hx
      have N1 := HT.out.root.keep hk1 hmr n2
      have L1 := HT.out.2.1.keep hk1 hmr (fun x hx hy => n5 x hx hy)
      have M1 := HM.out.keep hk1 (HM.out.ne HT.out.2.2)
      obtain ⟨_, _, _, _, _, _, _, _, _, _, g4, _⟩ := N1.cells
      have f4 := N1.frozen 4
      have H1 := Lib.hid (show _ ∧ _ ∧ _ ∧ _ ∧ _ ∧ _ from ⟨N1, L1, M1, hlo, hhi, hk1⟩)
      clear N1 L1 M1 hlo hhi hk1 hmr HC HR
      go_wp2_with fail
      obtain ⟨N1, L1, M1, hlo, hhi, hk1⟩ := H1.out
      have hlor : ∀ x, x ∈ lo.blocks → x ∈ r.blocks := fun x hx => hp.out.mem_iff.1 (List.mem_append_left _ hx)
      have hhir : ∀ x, x ∈ hi.blocks → x ∈ r.blocks := fun x hx => hp.out.mem_iff.1 (List.mem_append_right _ hx)
      have hblo : b ∉ lo.blocks := fun h => n2 (hlor b h)
      have hbhi : b ∉ hi.blocks := fun h => n2 (hhir b h)
      have hone : ∀ x, Only b x → Mut base w1 x := fun x e => e ▸ N1.mut
      have S2 : Keep (Only b) w1 (w1.setCell ⟨b, 4, none⟩ (.pointer lo.ptr)) := (Keep.refl (Only b) w1).setCell (p := ⟨b, 4, none⟩) (.inl rfl) _
      have hsz4 : l.size + lo.size < 1000000000 := by have := hps.out; omega
      refine (fresh_low (M1.keep S2 (M1.ne_node N1)) (N1.set4 lo.ptr) (L1.keep S2 hone (fun x hx e => n1 (e ▸ hx))) (hlo.keep S2 hone (fun x hx e => hblo (e ▸ hx))) n1 hblo hsz4).mono ?_
      rintro e w3 ⟨rfl, hrep, hk3, hl3⟩
      have HLo3 := Lib.hid ((HLo1.out.set b 4 (by omega) _).trans hl3)
      clear hl3 HLo1
      have hhi3 := hhi.keep (S2.trans hk3 (fun x e => .inl e)) hone (fun x hx e => hbhi (e ▸ hx))
      have hk := (hk1.mono (S' := In (AT.node b k v l r).blocks) (fun x hx => List.mem_cons_of_mem _ (List.mem_append_right _ hx))).trans (S2.trans hk3 (fun x e => .inl e)) (fun x e => .inl (by subst e; simp [In, AT.blocks]))
      have HF := Lib.hid (show _ ∧ _ ∧ _ from ⟨hrep, hhi3, hk⟩)
      clear hrep hhi3 hk hk3 S2 hone N1 L1 M1 hlo hhi hk1 H1
      go_wp2
      go_ret2
      exact ⟨rfl, HF.out.1, HF.out.2.1, HF.out.2.2, HLo3.out⟩
    · have hnl : ¬ Lib.compareBytes k key < 0 := hlt
      generalize Lib.compareBytes k key = z at *
      have hsp : (AT.node b k v l r).split key = ((l.split key).1, .node b k v (l.split key).2 r) := by simp [AT.split, hlt]
      rw [hsp]
      have hsz2 : l.size < 1000000000 := by simp only [AT.size] at hsz; omega
      have hsz3 : l.size + r.size < 1000000000 := by simp only [AT.size] at hsz; omega
      have HL := Lib.hid (ihl w hm ht.2.1 n3 hk hsz2)
      have HC := Lib.hid hcmp
      have HT := Lib.hid ht
      have HM := Lib.hid hm
      have hp := Lib.hid (split_perm key l)
      have hps := Lib.hid (split_size key l)
      generalize l.split key = q at *
      obtain ⟨lo, hi⟩ := q
      clear hcmp hm ht ihl ihr hA hB hk hN hsp hlt hnd e1 e2 e4 e5 e6
      go_enter Try.func86, Try.ntmps86
      go_wp2_with fail
      refine HC.out.mono ?_
      rintro e w' ⟨rfl, rfl⟩
      go_wp2_with fail
      refine HL.out.mono ?_
      rintro e w1 ⟨rfl, hlo, hhi, hk1, hl1⟩
      have HLo1 := Lib.hid hl1
      clear hl1
      have hml : ∀ x, In l.blocks x → Mut base w x := fun x hx => HT.out.2.1.mut x hx
      have N1 := HT.out.root.keep hk1 hml n1
      have R1 := HT.out.2.2.keep hk1 hml (fun x hx hy => n5 x hy hx)
      have M1 := HM.out.keep hk1 (HM.out.ne HT.out.2.1)
      obtain ⟨_, _, _, _, _, _, _, _, _, g3, _, _⟩ := N1.cells
      have f3 := N1.frozen 3
      have H1 := Lib.hid (show _ ∧ _ ∧ _ ∧ _ ∧ _ ∧ _ from ⟨N1, R1, M1, hlo, hhi, hk1⟩)
      clear N1 R1 M1 hlo hhi hk1 hml HC HL
      go_wp2_with fail
      obtain ⟨N1, R1, M1, hlo, hhi, hk1⟩ := H1.out
      have hlor : ∀ x, x ∈ lo.blocks → x ∈ l.blocks := fun x hx => hp.out.mem_iff.1 (List.mem_append_left _ hx)
      have hhir : ∀ x, x ∈ hi.blocks → x ∈ l.blocks := fun x hx => hp.out.mem_iff.1 (List.mem_append_right _ hx)
      have hblo : b ∉ lo.blocks := fun h => n1 (hlor b h)
      have hbhi : b ∉ hi.blocks := fun h => n1 (hhir b h)
      have hone : ∀ x, Only b x → Mut base w1 x := fun x e => e ▸ N1.mut
      have S2 : Keep (Only b) w1 (w1.setCell ⟨b, 3, none⟩ (.pointer hi.ptr)) := (Keep.refl (Only b) w1).setCell (p := ⟨b, 3, none⟩) (.inl rfl) _
      have hsz4 : hi.size + r.size < 1000000000 := by have := hps.out; omega
      refine (fresh_low (M1.keep S2 (M1.ne_node N1)) (N1.set3 hi.ptr) (hhi.keep S2 hone (fun x hx e => hbhi (e ▸ hx))) (R1.keep S2 hone (fun x hx e => n2 (e ▸ hx))) hbhi n2 hsz4).mono ?_
      rintro e w3 ⟨rfl, hrep, hk3, hl3⟩
      have HLo3 := Lib.hid ((HLo1.out.set b 3 (by omega) _).trans hl3)
      clear hl3 HLo1
      have hlo3 := hlo.keep (S2.trans hk3 (fun x e => .inl e)) hone (fun x hx e => hblo (e ▸ hx))
      have hk := (hk1.mono (S' := In (AT.node b k v l r).blocks) (fun x hx => List.mem_cons_of_mem _ (List.mem_append_left _ hx))).trans (S2.trans hk3 (fun x e => .inl e)) (fun x e => .inl (by subst e; simp [In, AT.blocks]))
      have HF := Lib.hid (show _ ∧ _ ∧ _ from ⟨hlo3, hrep, hk⟩)
      clear hrep hlo3 hk hk3 S2 hone N1 R1 M1 hlo hhi hk1 H1
      go_wp2
      go_ret2
      exact ⟨rfl, HF.out.1, HF.out.2.1, HF.out.2.2, HLo3.out⟩

theorem split_any {base : Nat} {seed : Int} {mb : Nat} {root : Option Addr} (A : Option Addr) (n c : Nat) (key : List UInt8) (t : AT) : ∀ (w : World), MapHas base w mb seed root → Rep base w seed t → t.blocks.Nodup → Bytes base w A n key → t.size < 1000000000 →
    Calls Try.prog 86 #[.pointer (some ⟨mb, 0, none⟩), .pointer t.ptr, .slice A n c] w fun e w' =>
      e = .returned (.tuple #[.pointer (t.split key).1.ptr, .pointer (t.split key).2.ptr]) ∧ Rep base w' seed (t.split key).1 ∧ Rep base w' seed (t.split key).2 ∧ Keep (In t.blocks) w w' :=
  fun w h1 h2 h3 h4 h5 => (split_low A n c key t w h1 h2 h3 h4 h5).mono fun _ _ ⟨h1, h2, h3, h4, _⟩ => ⟨h1, h2, h3, h4⟩
end Go.Proofs.Ytdmckjojeddaaaa
