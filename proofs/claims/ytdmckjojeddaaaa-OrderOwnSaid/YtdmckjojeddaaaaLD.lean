/- Contract of order's Load: bytes are loaded just if they are the image of a map of the seed, and as this map. Conditions: it names its own. -/
import Derived.Test.YtdmckjojeddaaaaLC
import Derived.Test.YtdmckjojeddaaaaMC
import Derived.Test.YtdmckjojeddaaaaV7
import Derived.Test.YtdmckjojeddaaaaP6
import Derived.IntWalk
namespace Go.Proofs.Ytdmckjojeddaaaa
open Go.RowKit Go.Proofs.YtdmckjojeddaaaaKit Go.Proofs.YtdmckjojeddaaaaPlain

/-! ### Plain -/
def tmpl (seed : Int) (l : PairL) : AT := l.foldl (fun t p => t.put seed 0 p.1 p.2) .nil
theorem tmpl_go {seed : Int} (l : PairL) {t : AT} (h : WF seed t) : WF seed (l.foldl (fun t p => t.put seed 0 p.1 p.2) t) ∧ (l.foldl (fun t p => t.put seed 0 p.1 p.2) t).toList = putAll t.toList l := by
  induction l generalizing t with
  | nil => exact ⟨h, rfl⟩
  | cons p l ih =>
    obtain ⟨h1, h2⟩ := ih (put_wf (nb := 0) (k := p.1) (v := p.2) h)
    refine ⟨h1, ?_⟩
    rw [List.foldl_cons, h2, put_list h.sorted h.heap]
    rfl
theorem tmpl_wf {seed : Int} {l : PairL} (hs : Sorted l) : WF seed (tmpl seed l) ∧ (tmpl seed l).toList = l := by
  obtain ⟨h1, h2⟩ := tmpl_go (seed := seed) l (t := .nil) ⟨List.Pairwise.nil, trivial⟩
  exact ⟨h1, h2.trans (putAll_self hs)⟩
theorem imageL_tree {seed : Int} {t : AT} (h : WF seed t) : imageL seed t.toList = lits ((t.size : Nat) : Int) 4 ++ t.parts.flatten := by
  rw [imageL, toList_length, parts_nodes seed t 0, shape_build h]
  rfl
def num4 (x0 x1 x2 x3 : UInt8) : Nat := x0.toNat + x1.toNat * 256 + x2.toNat * 65536 + x3.toNat * 16777216
theorem lits_four (n : Int) : lits n 4 = [byteOf n, byteOf (n / 256), byteOf (n / 256 / 256), byteOf (n / 256 / 256 / 256)] := rfl
theorem num4_lits {n : Nat} (h : n < 4294967296) : num4 (byteOf (n : Int)) (byteOf ((n : Int) / 256)) (byteOf ((n : Int) / 256 / 256)) (byteOf ((n : Int) / 256 / 256 / 256)) = n := by
  have h0 := byteOf_toNat (n : Int)
  have h1 := byteOf_toNat ((n : Int) / 256)
  have h2 := byteOf_toNat ((n : Int) / 256 / 256)
  have h3 := byteOf_toNat ((n : Int) / 256 / 256 / 256)
  unfold num4
  omega
theorem num4_inj {x0 x1 x2 x3 y0 y1 y2 y3 : UInt8} (h : num4 x0 x1 x2 x3 = num4 y0 y1 y2 y3) : x0 = y0 ∧ x1 = y1 ∧ x2 = y2 ∧ x3 = y3 := by
  unfold num4 at h
  have := x0.toNat_lt; have := x1.toNat_lt; have := x2.toNat_lt; have := x3.toNat_lt
  have := y0.toNat_lt; have := y1.toNat_lt; have := y2.toNat_lt; have := y3.toNat_lt
  exact ⟨UInt8.toNat_inj.1 (by omega), UInt8.toNat_inj.1 (by omega), UInt8.toNat_inj.1 (by omega), UInt8.toNat_inj.1 (by omega)⟩
theorem lits_num4 {x0 x1 x2 x3 : UInt8} {n : Nat} (h : num4 x0 x1 x2 x3 = n) : [x0, x1, x2, x3] = lits (n : Int) 4 := by
  have hlt : n < 4294967296 := by
    have := x0.toNat_lt; have := x1.toNat_lt; have := x2.toNat_lt; have := x3.toNat_lt
    unfold num4 at h; omega
  obtain ⟨h0, h1, h2, h3⟩ := num4_inj (h.trans (num4_lits hlt).symm)
  rw [lits_four, ← h0, ← h1, ← h2, ← h3]
theorem num_or (x0 x1 x2 x3 : UInt8) : bits .or .i64 (bits .or .i64 (bits .or .i64 (IntKind.i64.wrap (x0.toNat : Int)) (IntKind.i64.wrap (IntKind.i64.wrap (x1.toNat : Int) * 256))) (IntKind.i64.wrap (IntKind.i64.wrap (x2.toNat : Int) * 65536))) (IntKind.i64.wrap (IntKind.i64.wrap (x3.toNat : Int) * 16777216)) = ((num4 x0 x1 x2 x3 : Nat) : Int) := by
  have h0 := x0.toNat_lt
  have h1 := x1.toNat_lt
  have h2 := x2.toNat_lt
  have h3 := x3.toNat_lt
  have f1 : ((x1.toNat : Int) * 256) = ((x1.toNat * 2 ^ 8 : Nat) : Int) := by omega
  have f2 : ((x2.toNat : Int) * 65536) = ((x2.toNat * 2 ^ 16 : Nat) : Int) := by omega
  have f3 : ((x3.toNat : Int) * 16777216) = ((x3.toNat * 2 ^ 24 : Nat) : Int) := by omega
  rw [IntWalk.i64_in (x0.toNat : Int) ⟨by omega, by omega⟩, IntWalk.i64_in (x1.toNat : Int) ⟨by omega, by omega⟩, IntWalk.i64_in (x2.toNat : Int) ⟨by omega, by omega⟩, IntWalk.i64_in (x3.toNat : Int) ⟨by omega, by omega⟩, f1, f2, f3,
    IntWalk.i64_in ((x1.toNat * 2 ^ 8 : Nat) : Int) ⟨by omega, by omega⟩, IntWalk.i64_in ((x2.toNat * 2 ^ 16 : Nat) : Int) ⟨by omega, by omega⟩, IntWalk.i64_in ((x3.toNat * 2 ^ 24 : Nat) : Int) ⟨by omega, by omega⟩,
    or_byte _ _ 8 (by omega) (by omega), or_byte _ _ 16 (by omega) (by omega), or_byte _ _ 24 (by omega) (by omega)]
  rfl
theorem far_block_drew (w : World) (p : Addr) (q : Addr) (v : Value) (h : q.block ≠ p.block) : (w.setCell p v).drew.cell? q = w.cell? q :=
  World.cell?_setCell_other _ _ _ _ (fun e => h (congrArg Addr.block e).symm)
theorem Bytes.apart {base : Nat} {w : World} {ad : Addr} {n : Nat} {bs : List UInt8} {S : Nat → Prop} (h : Bytes base w (some ad) n bs) (hn : 0 < n) (hs : ∀ b, S b → Mut base w b) : ¬ S ad.block := by
  obtain ⟨ad', e, hi, _⟩ := h.2 hn
  injection e with e
  subst e
  exact hi.off (Off.of_mut rfl hs)

/-- A map that has this image. -/
def Imaged (seed : Int) (bs : List UInt8) : Prop := ∃ l, Sorted l ∧ Okay l ∧ l.length ≤ 100000 ∧ bs = imageL seed l
theorem imaged_fit {seed : Int} {bs : List UInt8} (h : Imaged seed bs) : ∃ x0 x1 x2 x3 bs1, bs = [x0, x1, x2, x3] ++ bs1 ∧ num4 x0 x1 x2 x3 ≤ 100000 ∧ (num4 x0 x1 x2 x3 = 0 → bs1 = []) ∧ (0 < num4 x0 x1 x2 x3 → ∃ u a, u.ptr.isSome = true ∧ Fit seed none bs1 ((num4 x0 x1 x2 x3 : Nat) : Int) none u [] 0 a) := by
  obtain ⟨l, hs, hok, hl, rfl⟩ := h
  obtain ⟨h1, h2⟩ := tmpl_wf (seed := seed) hs
  generalize tmpl seed l = t at h1 h2
  subst h2
  rw [imageL_tree h1, lits_four]
  rw [toList_length] at hl
  have hn := num4_lits (n := t.size) (by omega)
  refine ⟨_, _, _, _, _, rfl, by omega, fun h0 => ?_, fun h0 => ?_⟩
  · rw [hn] at h0
    cases t with
    | nil => rfl
    | node b k v l r => simp [AT.size] at h0
  · rw [hn] at h0 ⊢
    refine ⟨t, lastOf none t.toList, ?_, ⟨h1, hok, fun k e => (by cases e), fun k e => (by cases e), by simp, by simp, Int.le_refl _, rfl⟩⟩
    cases t with
    | nil => simp [AT.size] at h0
    | node b k v l r => rfl
theorem not_short {seed : Int} {bs : List UInt8} (h : bs.length < 4) : ¬ Imaged seed bs := fun hi => by
  obtain ⟨x0, x1, x2, x3, bs1, rfl, _⟩ := imaged_fit hi
  simp at h
  omega
section
variable {seed : Int} {bs bs1 bs2 : List UInt8} {x0 x1 x2 x3 : UInt8} {t : AT} {left2 : Int} {last2 : Option (List UInt8)} {bad2 : Bool}
theorem imaged_head (hb : bs = [x0, x1, x2, x3] ++ bs1) (h : Imaged seed bs) : num4 x0 x1 x2 x3 ≤ 100000 ∧ (num4 x0 x1 x2 x3 = 0 → bs1 = []) ∧ (0 < num4 x0 x1 x2 x3 → ∃ u a, u.ptr.isSome = true ∧ Fit seed none bs1 ((num4 x0 x1 x2 x3 : Nat) : Int) none u [] 0 a) := by
  obtain ⟨y0, y1, y2, y3, bs2, e, h⟩ := imaged_fit h
  rw [hb] at e
  simp only [List.cons_append, List.nil_append, List.cons.injEq] at e
  obtain ⟨rfl, rfl, rfl, rfl, rfl⟩ := e
  exact h
theorem not_big (hb : bs = [x0, x1, x2, x3] ++ bs1) (h : 100000 < num4 x0 x1 x2 x3) : ¬ Imaged seed bs := fun hi => by
  have := (imaged_head hb hi).1; omega
theorem not_empty (hb : bs = [x0, x1, x2, x3] ++ bs1) (h : num4 x0 x1 x2 x3 = 0) (h1 : 0 < bs1.length) : ¬ Imaged seed bs := fun hi => by
  have := (imaged_head hb hi).2.1 h; subst this; simp at h1
theorem is_empty (hb : bs = [x0, x1, x2, x3] ++ bs1) (h : num4 x0 x1 x2 x3 = 0) (h1 : bs1.length = 0) : bs = imageL seed [] := by
  rw [hb, List.eq_nil_of_length_eq_zero h1, lits_num4 h]
  rfl
theorem not_got (hb : bs = [x0, x1, x2, x3] ++ bs1) (hn : 0 < num4 x0 x1 x2 x3) (hg : Got seed true none bs1 ((num4 x0 x1 x2 x3 : Nat) : Int) none t bs2 left2 last2 bad2) (h : bad2 = true ∨ left2 ≠ 0 ∨ 0 < bs2.length) : ¬ Imaged seed bs := fun hi => by
  obtain ⟨u, a, hu, hf⟩ := (imaged_head hb hi).2.2 hn
  rcases hg with ⟨hb2, ht, hf2⟩ | ⟨_, hno⟩
  · obtain ⟨_, e1, e2, _⟩ := fit_unique _ _ hf2 hf (ht.trans hu.symm)
    subst e1 e2
    rcases h with h | h | h
    · rw [hb2] at h; cases h
    · exact h rfl
    · simp at h
  · exact hno _ _ _ _ hu hf
theorem is_got (hb : bs = [x0, x1, x2, x3] ++ bs1) (hg : Got seed true none bs1 ((num4 x0 x1 x2 x3 : Nat) : Int) none t bs2 left2 last2 false) (h1 : left2 = 0) (h2 : bs2.length = 0) : WF seed t ∧ Okay t.toList ∧ t.size = num4 x0 x1 x2 x3 ∧ bs = imageL seed t.toList := by
  rcases hg with ⟨_, _, hf⟩ | ⟨hf, _⟩
  · have hn := hf.num
    have hz : t.size = num4 x0 x1 x2 x3 := by omega
    refine ⟨hf.wf, hf.okay, hz, ?_⟩
    rw [imageL_tree hf.wf, hb, hf.bytes, List.eq_nil_of_length_eq_zero h2, List.append_nil, lits_num4 hz.symm]
  · cases hf
end

/-- What Load hands back. -/
def LoadRet (base : Nat) (w : World) (seed : Int) (bs : List UInt8) (e : Ending) (w' : World) : Prop :=
  Keep No w w' ∧ ((∃ mb l F, e = .returned (.tuple #[.pointer (some ⟨mb, 0, none⟩), .int .i64 0]) ∧ MSt base w' mb seed l F ∧ (∀ x ∈ F, w.heap.size ≤ x) ∧ l.length ≤ 100000 ∧ bs = imageL seed l ∧ MStC (fun b => b < w.heap.size) base w' mb seed l F) ∨
    (e = .returned (.tuple #[.pointer none, .int .i64 2]) ∧ ¬ Imaged seed bs))
theorem load_no {base : Nat} {w w' : World} {seed : Int} {bs : List UInt8} (hk : Keep No w w') (h : ¬ Imaged seed bs) : LoadRet base w seed bs (.returned (.tuple #[.pointer none, .int .i64 2])) w' := ⟨hk, .inr ⟨rfl, h⟩⟩

set_option maxHeartbeats 4000000 in
set_option maxRecDepth 100000 in
theorem load_any {base : Nat} {w : World} (seed : Int) (A : Option Addr) (n c : Nat) (bs : List UInt8) (h : Bytes base w A n bs) (hc : n ≤ c) (hb : base ≤ w.heap.size) :
    Calls Try.prog 35 #[.int .u64 seed, .slice A n c] w (LoadRet base w seed bs) := by
  obtain rfl := h.len
  have H := Lib.hid h
  clear h
  go_enter Try.func35, Try.ntmps35
  go_wp2_with (go_at_call 20; refine (new_any seed _).mono ?_; rintro e w' ⟨rfl, rfl⟩)
  have k1 : Keep No w ((w.alloc (.cells #[.bool true, .int .u64 seed, .pointer none] 106)).alloc (.cells #[.pointer (some ⟨w.heap.size, 0, none⟩), .slice A bs.length c, .int .i64 0, .slice none 0 0, .bool false, .bool false] 130)) := ((Keep.refl No w).alloc _).alloc _
  have MB : MapHas base ((w.alloc (.cells #[.bool true, .int .u64 seed, .pointer none] 106)).alloc (.cells #[.pointer (some ⟨w.heap.size, 0, none⟩), .slice A bs.length c, .int .i64 0, .slice none 0 0, .bool false, .bool false] 130)) w.heap.size seed none := ⟨hb, (Blk.new _ _ _).alloc _⟩
  have RB : Blk ((w.alloc (.cells #[.bool true, .int .u64 seed, .pointer none] 106)).alloc (.cells #[.pointer (some ⟨w.heap.size, 0, none⟩), .slice A bs.length c, .int .i64 0, .slice none 0 0, .bool false, .bool false] 130)) (w.heap.size + 1) 130 #[.pointer (some ⟨w.heap.size, 0, none⟩), .slice A bs.length c, .int .i64 0, .slice none 0 0, .bool false, .bool false] := by
    have := Blk.new (w.alloc (.cells #[.bool true, .int .u64 seed, .pointer none] 106)) 130 #[.pointer (some ⟨w.heap.size, 0, none⟩), .slice A bs.length c, .int .i64 0, .slice none 0 0, .bool false, .bool false]
    rwa [World.size_alloc] at this
  have R1 := Lib.hid (show RSt base _ (w.heap.size + 1) w.heap.size seed bs 0 none false from ⟨by omega, MB, A, c, _, hc, RB, H.out.new_ k1, fun k e => (by cases e)⟩)
  have K1 := Lib.hid k1
  clear k1 MB RB H
  obtain ⟨w1, hw1⟩ : ∃ x, x = ((w.alloc (.cells #[.bool true, .int .u64 seed, .pointer none] 106)).alloc (.cells #[.pointer (some ⟨w.heap.size, 0, none⟩), .slice A bs.length c, .int .i64 0, .slice none 0 0, .bool false, .bool false] 130)) := ⟨_, rfl⟩
  rw [← hw1] at R1 K1 ⊢
  have hz1 : w.heap.size + 1 < w1.heap.size := by rw [hw1]; simp
  clear hw1
  obtain ⟨mb, hmb⟩ : ∃ x, x = w.heap.size := ⟨_, rfl⟩
  obtain ⟨rb, hrb⟩ : ∃ x, x = w.heap.size + 1 := ⟨_, rfl⟩
  rw [← hrb] at R1 ⊢
  rw [← hmb] at R1 ⊢
  have HMB := Lib.hid hmb
  have HRB := Lib.hid hrb
  clear hmb hrb
  refine (rtake_any 4 R1.out (by omega)).mono ?_
  rintro e w2 ⟨A4, c4, x, bs1, bad1, rfl, hc4, b4, k4, r4, g4⟩
  obtain ⟨ad, x0, x1, x2, x3, rfl, rfl, y0, y1, y2, y3⟩ := four b4
  obtain ⟨Ar, cr, Lr, hcr, hrr, hbr, hlr⟩ := r4.rdr
  have pf2 := hrr.cells.2.2.2.2.2.2 2
  have p2 := hrr.cells.2.2.1
  have R2 := Lib.hid r4
  have G2 := Lib.hid g4
  have hne : ad.block ≠ rb := fun e => Bytes.apart b4 (by omega) r4.only e
  have hk2 : Keep No w w2 := K1.out.trans k4 (fun x e => .inr (by have := HRB.out; have : x = rb := e; omega))
  have K2 := Lib.hid hk2
  clear R1 K1 b4 k4 r4 g4 hcr hrr hbr hlr hz1 hk2
  have hx0 := x0.toNat_lt
  have hx1 := x1.toNat_lt
  have hx2 := x2.toNat_lt
  have hx3 := x3.toNat_lt
  go_wp2_with fail
  go_region_held3 (fun w' => w'.cell? ad = some (.int .u8 (x0.toNat : Int)) ∧ w'.cell? ⟨ad.block, ad.off + 1, none⟩ = some (.int .u8 (x1.toNat : Int)) ∧ w'.cell? ⟨ad.block, ad.off + 2, none⟩ = some (.int .u8 (x2.toNat : Int)) ∧ w'.cell? ⟨ad.block, ad.off + 3, none⟩ = some (.int .u8 (x3.toNat : Int)))
    (first
      | exact ⟨y0, y1, y2, y3⟩
      | (go_split_ands; exact ⟨(far_block_drew _ _ _ _ hne).trans y0, (far_block_drew _ _ _ _ hne).trans y1, (far_block_drew _ _ _ _ hne).trans y2, (far_block_drew _ _ _ _ hne).trans y3⟩)
      | go_keep)
    (fail)
  rename_i hHeld
  clear hHeld
  rw [num_or]
  obtain ⟨n4, hn4⟩ : ∃ n4, n4 = num4 x0 x1 x2 x3 := ⟨_, rfl⟩
  rw [← hn4]
  have HN4 := Lib.hid hn4
  obtain ⟨w3, hw3⟩ : ∃ x, x = (w2.setCell ⟨rb, 2, none⟩ (Value.int IntKind.i64 (n4 : Int))).drew := ⟨_, rfl⟩
  rw [← hw3]
  have R3 := Lib.hid (show RSt base w3 rb mb seed bs1 (n4 : Int) none bad1 from hw3 ▸ (R2.out.set2 (n4 : Int)).drew)
  have K3 := Lib.hid (show Keep No w w3 from hw3 ▸ (K2.out.setCell (p := ⟨rb, 2, none⟩) (.inr (by have := HRB.out; show w.heap.size ≤ rb; omega)) _).drew)
  clear hw3 hn4 R2 K2 y0 y1 y2 y3 p2 pf2 hx0 hx1 hx2 hx3 hne
  obtain ⟨q5, q2⟩ : w3.cell? ⟨rb, 5, none⟩ = some (.bool bad1) ∧ w3.cell? ⟨rb, 2, none⟩ = some (.int .i64 (n4 : Int)) := by obtain ⟨_, _, _, _, hr, _⟩ := R3.out.rdr; exact ⟨hr.cells.2.2.2.2.2.1, hr.cells.2.2.1⟩
  cases bad1 with
  | true =>
    have HNO := Lib.hid (show ¬ Imaged seed bs from G2.out.elim (fun h => (by cases h.1)) (fun h => not_short (h.2.1.resolve_left (by simp))))
    clear G2 HN4
    go_wp2
    go_ret2
    exact load_no K3.out HNO.out
  | false =>
    have hbs := G2.out.elim (fun h => h.2.2) (fun h => (by cases h.1))
    have HBS := Lib.hid hbs
    clear hbs G2
    by_cases t1 : 100000 < n4
    · have d1 : decide ((n4 : Int) > 100000) = true := by simp; omega
      have HNO := Lib.hid (show ¬ Imaged seed bs from not_big HBS.out (by rw [← HN4.out]; exact t1))
      go_wp2
      go_ret2
      exact load_no K3.out HNO.out
    have d1 : decide ((n4 : Int) > 100000) = false := by simp; omega
    obtain ⟨Ar, cr, Lr, hcr, hrr, _, _⟩ := R3.out.rdr
    obtain ⟨q0, q1, _⟩ := hrr.cells
    have HRR := Lib.hid hrr
    clear hrr hcr
    by_cases t2 : 0 < n4
    · have d2 : decide ((n4 : Int) > 0) = true := by simp; omega
      have hb3 : base ≤ w3.heap.size := Nat.le_trans hb K3.out.size
      have HN := Lib.hid (rnode_any n4 w3.drew (n4 : Int) bs1 none none none (Int.le_refl _) R3.out.drew (.inl ⟨rfl, rfl⟩) (by omega) (by omega) hb3)
      have hmr : mb ≠ rb := R3.out.ne
      have HM3 := Lib.hid (show Mut base w3 rb ∧ mb < w3.heap.size from ⟨R3.out.mut, R3.out.map.2.lt⟩)
      clear q1 q2 q5
      go_wp2_with fail
      go_region_held3 (fun w' => w'.cell? ⟨rb, 0, none⟩ = some (.pointer (some ⟨mb, 0, none⟩)))
        (first
          | exact q0
          | exact (HQ.out)
          | exact (far_block_drew _ _ _ _ hmr.symm).trans HQ.out
          | exact (far_block _ _ _ _ hmr.symm).trans HQ.out
          | go_keep)
        (first
          | (go_at_call 75; refine HN.out.mono ?_; rintro e w4 ⟨t, bs2, left2, last2, bad2, rfl, ht1, ht2, ht3, ht4, ht5, ht6, ht7, ht8⟩; have HQ := Lib.hid (show w4.cell? ⟨rb, 0, none⟩ = some (.pointer (some ⟨mb, 0, none⟩)) from (by obtain ⟨_, _, _, _, hr, _⟩ := ht5.rdr; exact hr.cells.1)); have HT := Lib.hid (show _ ∧ _ ∧ _ ∧ _ ∧ _ ∧ _ ∧ _ ∧ _ from ⟨ht1, ht2, ht3, ht4, ht5, ht6, ht7, ht8⟩); have c2 := ht5.map.cells.2.2; have f2 := Blk.frozen ht5.map.2 2; clear ht1 ht2 ht3 ht4 ht5 ht6 ht7 ht8)
          | fail)
      rename_i hHeld
      clear hHeld f2 c2 HN
      obtain ⟨ht1, ht2, ht3, ht4, ht5, ht6, ht7, ht8⟩ := HT.out
      obtain ⟨A5, c5, L5, hc5, hr5, hb5, _⟩ := ht5.rdr
      have hr6 : Rdr (w4.setCell ⟨mb, 2, none⟩ (.pointer t.ptr)) rb mb A5 bs2.length c5 left2 L5 last2.isSome bad2 := Blk.far hr5 (p := ⟨mb, 2, none⟩) hmr.symm _
      have hk4 : Keep No w w4 := K3.out.trans ht6.of_drew (fun x e => .inr (by have := HRB.out; have : x = rb := e; omega))
      have hk6 : Keep No w (w4.setCell ⟨mb, 2, none⟩ (.pointer t.ptr)) := hk4.setCell (p := ⟨mb, 2, none⟩) (.inr (by have := HMB.out; show w.heap.size ≤ mb; omega)) _
      have hmt : ∀ x ∈ t.blocks, x ≠ mb := fun x hx e => by have h1 := ht3 x hx; have h2 := HM3.out.2; have : w3.heap.size ≤ x := h1; omega
      have hrep : Rep base (w4.setCell ⟨mb, 2, none⟩ (.pointer t.ptr)) seed t := ht1.keep ((Keep.refl (fun b => b = mb) w4).setCell (p := ⟨mb, 2, none⟩) (.inl rfl) _) (fun b e => e ▸ ht5.map.mut) hmt
      have hhas : MapHas base (w4.setCell ⟨mb, 2, none⟩ (.pointer t.ptr)) mb seed t.ptr := ⟨ht5.map.1, Blk.set_ ht5.map.2 2 _⟩
      have HCL := Lib.hid (show Clean (fun b => b < w.heap.size) (w4.setCell ⟨mb, 2, none⟩ (.pointer t.ptr)) t from fun b hb i hi A n c hn hc ad e hbad => by
        have h1 := ((ht8 b hb).low ((Low.refl w4).set mb 2 (by omega) (.pointer t.ptr)) (ht1.lt hb)) i hi A n c hc ad e
        have h2 := K3.out.size
        have h3 : w3.heap.size ≤ ad.block := h1
        omega)
      have HO := Lib.hid (show MObj base _ mb seed t from ⟨hhas, hrep, ht2⟩)
      have HK6 := Lib.hid hk6
      have HB := Lib.hid (show ∀ x ∈ mb :: t.blocks, w.heap.size ≤ x from fun x hx => (List.mem_cons.1 hx).elim (fun e => by have := HMB.out; omega) (fun h => Nat.le_trans K3.out.size (ht3 x h)))
      have HG := Lib.hid (show Got seed true none bs1 ((num4 x0 x1 x2 x3 : Nat) : Int) none t bs2 left2 last2 bad2 from HN4.out ▸ ht7)
      obtain ⟨p0, p1, p2, _, _, p5, _⟩ := hr6.cells
      have hn4p : 0 < num4 x0 x1 x2 x3 := HN4.out ▸ t2
      have HP := Lib.hid hn4p
      clear ht1 ht2 ht3 ht4 ht5 ht6 ht7 ht8 hr5 hb5 hr6 hk4 hk6 hmt hrep hhas HT HQ hn4p HM3 q0
      obtain ⟨w6, hw6⟩ : ∃ x, x = w4.setCell ⟨mb, 2, none⟩ (.pointer t.ptr) := ⟨_, rfl⟩
      rw [← hw6] at HO HCL HK6 p0 p1 p2 p5 ⊢
      clear hw6
      cases bad2 with
      | true =>
        have HNO := Lib.hid (not_got HBS.out HP.out HG.out (.inl rfl))
        go_wp2
        go_ret2
        exact load_no HK6.out HNO.out
      | false =>
        by_cases t3 : left2 = 0
        · have HT3 := Lib.hid t3
          have d3 : (left2 != 0) = false := by rw [t3]; rfl
          clear t3
          by_cases t4 : 0 < bs2.length
          · have HNO := Lib.hid (not_got HBS.out HP.out HG.out (.inr (.inr t4)))
            go_wp2
            go_ret2
            exact load_no HK6.out HNO.out
          · have HY := Lib.hid (is_got HBS.out HG.out HT3.out (by omega))
            go_wp2
            go_ret2
            exact ⟨HK6.out, .inl ⟨mb, t.toList, mb :: t.blocks, rfl, ⟨t, HO.out, HY.out.1, rfl, rfl⟩, HB.out, by rw [toList_length, HY.out.2.2.1, ← HN4.out]; omega, HY.out.2.2.2, ⟨t, HO.out, HY.out.1, rfl, rfl, HCL.out⟩⟩⟩
        · have HNO := Lib.hid (not_got HBS.out HP.out HG.out (.inr (.inl t3)))
          have d3 : (left2 != 0) = true := by simpa using t3
          go_wp2
          go_ret2
          exact load_no HK6.out HNO.out
    · have d2 : decide ((n4 : Int) > 0) = false := by simp; omega
      have hn0 : n4 = 0 := by omega
      have d3 : ((n4 : Int) != 0) = false := by simp; omega
      have HN0 := Lib.hid hn0
      clear hn0 t1
      by_cases t3 : 0 < bs1.length
      · have d4 : decide ((bs1.length : Int) > 0) = true := by simp; omega
        have HNO := Lib.hid (show ¬ Imaged seed bs from not_empty HBS.out (HN4.out.symm.trans HN0.out) t3)
        go_wp2
        go_ret2
        exact load_no K3.out HNO.out
      · have d4 : decide ((bs1.length : Int) > 0) = false := decide_eq_false (by omega)
        have HYES := Lib.hid (is_empty (seed := seed) HBS.out (HN4.out.symm.trans HN0.out) (by omega))
        go_wp2
        go_ret2
        exact ⟨K3.out, .inl ⟨mb, [], [mb], rfl, ⟨.nil, ⟨R3.out.map, trivial, List.nodup_nil⟩, ⟨List.Pairwise.nil, trivial⟩, rfl, rfl⟩, fun x hx => by have := HMB.out; simp at hx; omega, by simp, HYES.out, ⟨.nil, ⟨R3.out.map, trivial, List.nodup_nil⟩, ⟨List.Pairwise.nil, trivial⟩, rfl, rfl, fun b hb => (by cases hb)⟩⟩⟩
end Go.Proofs.Ytdmckjojeddaaaa
