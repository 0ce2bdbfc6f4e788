/- LearnShows: the image read back; its walk. Conditions: each names its own. -/
import Derived.Test.YtgabidgpngiecaaLX0
import Derived.StillTailTactics
namespace Go.Proofs.Ytgabidgpngiecaa
open Go.RowKit Go.Proofs.YtgabidgpngiecaaKit Go.Proofs.YtgabidgpngiecaaPlain

/-! ### The image's bytes -/
theorem img_len (L : List (Row × Nat)) : (imgL L).length = 2 + 9 * L.length := by
  unfold imgL
  rw [List.length_append, bigL_length, rows_length]
theorem rows_get : ∀ (L : List (Row × Nat)) (k : Nat) (hk : k < L.length) (j : Nat), j < 9 → ((L.map rowL).flatten)[9 * k + j]? = (rowL L[k])[j]?
  | [], k, hk, _, _ => absurd hk (by simp)
  | p :: L, 0, _, j, hj => by
    rw [List.map_cons, List.flatten_cons, Nat.mul_zero, Nat.zero_add, List.getElem?_append_left (by rw [rowL_length]; exact hj)]
    rfl
  | p :: L, k + 1, hk, j, hj => by
    have ih := rows_get L k (by simpa using hk) j hj
    rw [List.map_cons, List.flatten_cons, List.getElem?_append_right (by rw [rowL_length]; omega), rowL_length, show 9 * (k + 1) + j - 9 = 9 * k + j from by omega]
    exact ih
theorem img_get (L : List (Row × Nat)) (k : Nat) (hk : k < L.length) (j : Nat) (hj : j < 9) : (imgL L)[2 + 9 * k + j]? = (rowL L[k])[j]? := by
  unfold imgL
  rw [List.getElem?_append_right (by rw [bigL_length]; omega), bigL_length, show 2 + 9 * k + j - 2 = 9 * k + j from by omega]
  exact rows_get L k hk j hj
theorem pair_of {x : Int} (h0 : 0 ≤ x) (h1 : x < 65536) : ((byt (x / 256)).toNat : Int) * 256 + ((byt x).toNat : Int) = x := by
  rw [byt_toNat, byt_toNat]
  omega
theorem byt_lt (x : Int) : (byt x).toNat < 256 := by
  have := byt_toNat x
  omega
/-- A row's bytes as numbers. -/
structure Nine (r : Row) (t : Nat) (x0 x1 x2 x3 x4 x5 x6 x7 x8 : Nat) : Prop where
  a : (x0 : Int) * 256 + x1 = r.a + 1000
  b : (x2 : Int) * 256 + x3 = r.b + 1000
  c : (x4 : Int) * 256 + x5 = r.c + 1000
  l : (x6 : Int) = r.l
  t : (x7 : Int) * 256 + x8 = t
  u : x0 < 256 ∧ x1 < 256 ∧ x2 < 256 ∧ x3 < 256 ∧ x4 < 256 ∧ x5 < 256 ∧ x6 < 256 ∧ x7 < 256 ∧ x8 < 256
structure NineC (w : World) (ad : Addr) (m : Nat) (x0 x1 x2 x3 x4 x5 x6 x7 x8 : Nat) : Prop where
  e0 : w.cell? (ad.add m) = some (.int .u8 x0)
  e1 : w.cell? (ad.add (m + 1)) = some (.int .u8 x1)
  e2 : w.cell? (ad.add (m + 2)) = some (.int .u8 x2)
  e3 : w.cell? (ad.add (m + 3)) = some (.int .u8 x3)
  e4 : w.cell? (ad.add (m + 4)) = some (.int .u8 x4)
  e5 : w.cell? (ad.add (m + 5)) = some (.int .u8 x5)
  e6 : w.cell? (ad.add (m + 6)) = some (.int .u8 x6)
  e7 : w.cell? (ad.add (m + 7)) = some (.int .u8 x7)
  e8 : w.cell? (ad.add (m + 8)) = some (.int .u8 x8)
  b : Imm 0 5 w ad.block
theorem NineC.keep {S : Nat → Prop} {w w' : World} {ad : Addr} {m x0 x1 x2 x3 x4 x5 x6 x7 x8 : Nat} (h : NineC w ad m x0 x1 x2 x3 x4 x5 x6 x7 x8) (hk : Keep S w w') (hne : ¬ S ad.block) : NineC w' ad m x0 x1 x2 x3 x4 x5 x6 x7 x8 := by
  have hc : ∀ j, w'.cell? (ad.add j) = w.cell? (ad.add j) := fun j => hk.cell (p := ad.add j) (by rw [block_of_add]; exact h.b.lt) (by rw [block_of_add]; exact hne)
  refine ⟨(hc _).trans h.e0, (hc _).trans h.e1, (hc _).trans h.e2, (hc _).trans h.e3, (hc _).trans h.e4, (hc _).trans h.e5, (hc _).trans h.e6, (hc _).trans h.e7, (hc _).trans h.e8, h.b.same (hk.block _ h.b.lt hne) hk.size⟩
theorem NineC.ne {w : World} {ad : Addr} {m x0 x1 x2 x3 x4 x5 x6 x7 x8 g : Nat} {cs : Array Value} (h : NineC w ad m x0 x1 x2 x3 x4 x5 x6 x7 x8) (hb : Blk w g 33 cs) : ad.block ≠ g := fun e => by
  rcases h.b.2.2 with h5 | ⟨cs', f, h5⟩
  · exact absurd h5 (by omega)
  · unfold Blk at hb
    rw [e, hb] at h5
    injection h5 with h5
    injection h5 with _ h5 _
    exact absurd h5 (by decide)
theorem NineC.put {w : World} {ad : Addr} {m x0 x1 x2 x3 x4 x5 x6 x7 x8 g i : Nat} {cs : Array Value} {v : Value} (h : NineC w ad m x0 x1 x2 x3 x4 x5 x6 x7 x8) (hb : Blk w g 33 cs) : NineC (w.setCell ⟨g, i, none⟩ v).drew ad m x0 x1 x2 x3 x4 x5 x6 x7 x8 :=
  h.keep (((Keep.refl (fun x => x = g) w).setCell (p := ⟨g, i, none⟩) (.inl rfl) v).drew) (h.ne hb)
theorem NineC.put0 {w : World} {ad : Addr} {m x0 x1 x2 x3 x4 x5 x6 x7 x8 g i : Nat} {cs : Array Value} {v : Value} (h : NineC w ad m x0 x1 x2 x3 x4 x5 x6 x7 x8) (hb : Blk w g 33 cs) : NineC (w.setCell ⟨g, i, none⟩ v) ad m x0 x1 x2 x3 x4 x5 x6 x7 x8 :=
  h.keep ((Keep.refl (fun x => x = g) w).setCell (p := ⟨g, i, none⟩) (.inl rfl) v) (h.ne hb)
theorem img_cells {w : World} {A : Option Addr} {n : Nat} {L : List (Row × Nat)} (h : Bytes 0 w A n (imgL L)) {k : Nat} (hk : k < L.length) (hok : okRow L[k].1) (ht : L[k].2 ≤ 500) :
    ∃ (ad : Addr) (x0 x1 x2 x3 x4 x5 x6 x7 x8 : Nat), A = some ad ∧ Nine L[k].1 L[k].2 x0 x1 x2 x3 x4 x5 x6 x7 x8 ∧ NineC w ad (2 + 9 * k) x0 x1 x2 x3 x4 x5 x6 x7 x8 := by
  have hl := h.len
  rw [img_len] at hl
  have hc : ∀ j (hj : j < 9), ∀ x, (rowL L[k])[j]? = some x → ∃ ad, A = some ad ∧ w.cell? (ad.add (2 + 9 * k + j)) = some (.int .u8 (x.toNat : Int)) := fun j hj x hx => by
    obtain ⟨ad, hA, h1⟩ := h.at_ (k := 2 + 9 * k + j) (by omega)
    refine ⟨ad, hA, ?_⟩
    rw [h1, List.getD_eq_getElem?_getD, img_get L k hk j hj, hx]
    rfl
  obtain ⟨ad, hA, c0⟩ := hc 0 (by omega) _ rfl
  obtain ⟨ad2, hA2, hi, _⟩ := h.2 (by omega)
  subst hA
  obtain rfl : ad = ad2 := Option.some.inj hA2
  have hd : ∀ j (hj : j < 9), ∀ x, (rowL L[k])[j]? = some x → w.cell? (ad.add (2 + 9 * k + j)) = some (.int .u8 (x.toNat : Int)) := fun j hj x hx => by
    obtain ⟨ad', hA, h1⟩ := hc j hj x hx
    injection hA with hA
    subst hA
    exact h1
  obtain ⟨⟨a1, a2⟩, ⟨b1, b2⟩, ⟨c1, c2⟩, d1, d2⟩ := hok
  refine ⟨ad, _, _, _, _, _, _, _, _, _, rfl, ⟨?_, ?_, ?_, ?_, ?_, ⟨?_, ?_, ?_, ?_, ?_, ?_, ?_, ?_, ?_⟩⟩, ⟨c0, hd 1 (by omega) _ rfl, hd 2 (by omega) _ rfl, hd 3 (by omega) _ rfl, hd 4 (by omega) _ rfl, hd 5 (by omega) _ rfl, hd 6 (by omega) _ rfl, hd 7 (by omega) _ rfl, hd 8 (by omega) _ rfl, hi⟩⟩
  · exact pair_of (by omega) (by omega)
  · exact pair_of (by omega) (by omega)
  · exact pair_of (by omega) (by omega)
  · rw [byt_toNat]; omega
  · exact pair_of (by omega) (by omega)
  all_goals exact byt_lt _

/-- Two models, the bytes of the first one's image. -/
structure ShS (w W : World) (mb b nm nb : Nat) (A : Option Addr) (N : Nat) (L : List (Row × Nat)) (R D : List Row) : Prop where
  m : Mdl w.heap.size W mb b R
  nn : Mdl w.heap.size W nm nb D
  by_ : Bytes 0 W A N (imgL L)
  kp : Keep No w W
  ne : mb ≠ nm ∧ mb ≠ nb ∧ b ≠ nm ∧ b ≠ nb
section
variable {w W W' : World} {mb b nm nb : Nat} {A : Option Addr} {n : Nat} {L : List (Row × Nat)} {R D D' : List Row}
theorem imm_model {base B e k : Nat} {w : World} (h : Imm B e w k) (hm : Mdl base w mb b R) (hB : B ≤ base) (he : e ≠ 83) : k ≠ mb ∧ k ≠ b := by
  obtain ⟨s, h3, _⟩ := hm
  obtain ⟨es, clock, h4, _⟩ := h3.map
  rcases h.2.2 with h5 | ⟨cs, f, h5⟩
  · have := h3.bm
    have := h3.bb
    omega
  · refine ⟨fun e => ?_, fun e => ?_⟩
    · have := h3.blk
      unfold Blk at this
      rw [← e, h5] at this
      injection this with this
      injection this with _ this _
      exact absurd this he
    · rw [← e, h5] at h4
      cases h4
theorem reads_apart {B e size n : Nat} {S : Nat → Prop} {w w' : World} {A : Option Addr} {xs : List Value} (h : Reads B w e size A n xs) (hk : Keep S w w') (hs : ∀ k, Imm B e w k → ¬ S k) : Reads B w' e size A n xs :=
  ⟨h.1, fun hn => by
    obtain ⟨ad, rfl, hi, hcell⟩ := h.2 hn
    have hns := hs _ hi
    have hb : w'.heap[ad.block]? = w.heap[ad.block]? := hk.block _ hi.lt hns
    refine ⟨ad, rfl, hi.same hb hk.size, fun j u hu => ?_⟩
    have h1 := hk.cell (p := ad.add j) (by rw [block_of_add]; exact hi.lt) (by rw [block_of_add]; exact hns)
    exact h1.trans (hcell j u hu)⟩
theorem bytes_model {base B : Nat} {w w' : World} {A : Option Addr} {n : Nat} {bs : List UInt8} (h : Bytes B w A n bs) (hm : Mdl base w mb b R) (hB : B ≤ base) (hk : Keep (fun x => x = mb ∨ x = b) w w') : Bytes B w' A n bs :=
  reads_apart h hk (fun _ hi e => e.elim (imm_model hi hm hB (by decide)).1 (imm_model hi hm hB (by decide)).2)
theorem blk_model {base g : Nat} {w : World} {t : TypeId} {cs : Array Value} (h : Blk w g t cs) (hm : Mdl base w mb b R) (ht : t ≠ 83) : mb ≠ g ∧ b ≠ g := by
  obtain ⟨s, h3, _⟩ := hm
  obtain ⟨es, clock, h4, _⟩ := h3.map
  unfold Blk at h
  refine ⟨fun e => ?_, fun e => ?_⟩
  · have := h3.blk
    unfold Blk at this
    rw [e, h] at this
    injection this with this
    injection this with _ this _
    exact absurd this ht
  · rw [e, h] at h4
    cases h4
theorem ShS.new_ (h : ShS w W mb b nm nb A n L R D) (hk : Keep No W W') : ShS w W' mb b nm nb A n L R D := ⟨h.m.new_ hk, h.nn.new_ hk, h.by_.new_ hk, h.kp.trans hk (fun _ x => x.elim), h.ne⟩
theorem ShS.onn (h : ShS w W mb b nm nb A n L R D) (hn : Mdl w.heap.size W' nm nb D') (hk : Keep (fun x => x = nm ∨ x = nb) W W') : ShS w W' mb b nm nb A n L R D' :=
  ⟨h.m.keep hk (fun e => e.elim h.ne.1 h.ne.2.1) (fun e => e.elim h.ne.2.2.1 h.ne.2.2.2), hn, bytes_model h.by_ h.nn (Nat.zero_le _) hk, h.kp.trans hk (fun x e => .inr (by rcases e with e | e <;> (subst e; first | exact h.nn.ge.1 | exact h.nn.ge.2))), h.ne⟩
/-- A cell of a row is written. -/
theorem ShS.put0 {g i : Nat} {cs : Array Value} {v : Value} (h : ShS w W mb b nm nb A n L R D) (hb : Blk W g 33 cs) (hg : w.heap.size ≤ g) : ShS w (W.setCell ⟨g, i, none⟩ v) mb b nm nb A n L R D := by
  have hk : Keep (fun x => x = g) W (W.setCell ⟨g, i, none⟩ v) := (Keep.refl (fun x => x = g) W).setCell (p := ⟨g, i, none⟩) (.inl rfl) v
  refine ⟨h.m.keep hk (blk_model hb h.m (by decide)).1 (blk_model hb h.m (by decide)).2, h.nn.keep hk (blk_model hb h.nn (by decide)).1 (blk_model hb h.nn (by decide)).2, reads_apart h.by_ hk (fun k hi e => ?_), h.kp.trans hk (fun x e => .inr (by subst e; exact hg)), h.ne⟩
  subst e
  rcases hi.2.2 with h5 | ⟨cs', f, h5⟩
  · exact absurd h5 (by omega)
  · unfold Blk at hb
    rw [hb] at h5
    injection h5 with h5
    injection h5 with _ h5 _
    exact absurd h5 (by decide)
theorem ShS.put {g i : Nat} {cs : Array Value} {v : Value} (h : ShS w W mb b nm nb A n L R D) (hb : Blk W g 33 cs) (hg : w.heap.size ≤ g) : ShS w (W.setCell ⟨g, i, none⟩ v).drew mb b nm nb A n L R D := (h.put0 hb hg).new_ ((Keep.refl No _).drew)
theorem ShS.permD {D' : List Row} (h : ShS w W mb b nm nb A n L R D) (hp : D.Perm D') : ShS w W mb b nm nb A n L R D' := ⟨h.m, h.nn.perm hp, h.by_, h.kp, h.ne⟩
theorem expand_app : ∀ s s' : List (Row × Nat), expand (s ++ s') = expand s ++ expand s'
  | [], _ => rfl
  | p :: s, s' => by rw [List.cons_append, expand_cons, expand_app s s', expand_cons, List.append_assoc]
theorem expand_more {L : List (Row × Nat)} {k : Nat} (h : k < L.length) : (List.replicate L[k].2 L[k].1 ++ expand (L.take k)).Perm (expand (L.take (k + 1))) := by
  rw [← List.take_append_getElem h, expand_app, expand_cons]
  refine List.perm_append_comm.trans ?_
  rw [show expand [] = ([] : List Row) from rfl, List.append_nil]
end

set_option maxHeartbeats 4000000 in
set_option maxRecDepth 100000 in
theorem learnShows_walk {base : Nat} {w : World} {A Aq : Option Addr} {c cq : Nat} {l : List Row} {qs : List Que} (h : RowsIn base w A l) (hmax : l.length ≤ maxLen) (hq : AsksIn base w Aq qs) (hqk : ∀ q ∈ qs, q.k < 9223372036854775808) :
    Calls Try.prog 8 #[.slice A l.length c, .slice Aq qs.length cq] w fun e w' => e = .returned (.bool true) ∧ Keep No w w' := by
  have mixed : Try.prog.follows .mixedOrders = true := by kernel_rfl
  have HB := Lib.hid (built_of (c := c) 300 (by omega) h hmax)
  have HQ := Lib.hid (show _ ∧ _ from ⟨hq, hqk⟩)
  clear h hmax hq hqk
  have HAl := Lib.hid (fun W => alive_any W)
  go_enter Try.func8, Try.ntmps8
  go_wp2_with fail
  refine HB.out.mono ?_
  rintro e w1 ⟨v, R, rfl, hbi, hR⟩
  obtain ⟨Av, cv, rfl, hrin⟩ := hbi.ro.shape
  have hR3 : R.length ≤ 300 := by rw [hR]; exact takeOk_length _ _
  have HR3 := Lib.hid hR3
  have HOK := Lib.hid hbi.md.okay
  have HI := Lib.hid hbi
  clear hR HB hR3 hrin hbi
  go_wp2_with fail
  refine (new_any w1).mono ?_
  rintro e w2 ⟨rfl, hw2⟩
  have hK2 : Keep No w1 w2 := hw2 ▸ ((Keep.refl No w1).alloc _).alloc _
  have hM2 : Mdl w.heap.size w2 (w1.heap.size + 1) w1.heap.size [] := hw2 ▸ Mdl.made HI.out.kp.size
  have HM2 := Lib.hid (show _ ∧ _ from ⟨hK2, hM2⟩)
  clear hw2 hK2 hM2
  by_cases h10 : 10 < qs.length
  · have hd : decide ((10 : Int) < (qs.length : Int)) = true := decide_eq_true (by omega)
    have hd' : decide (10 < qs.length) = true := decide_eq_true h10
    have HK2 := Lib.hid (HI.out.kp.trans HM2.out.1 (fun _ x => x.elim))
    clear h10
    go_wp2_with fail
    refine (HAl.out _).mono ?_
    rintro e w3 ⟨rfl, hk3⟩
    have HK3 := Lib.hid (HK2.out.trans hk3 (fun _ x => x.elim))
    clear hk3
    go_wp2_with fail
    go_ret
    exact ⟨rfl, HK3.out⟩
  have hd : decide ((10 : Int) < (qs.length : Int)) = false := decide_eq_false (by omega)
  have hd' : decide (10 < qs.length) = false := decide_eq_false h10
  have HQL := Lib.hid h10
  clear h10
  obtain ⟨L0, hc0, hp0⟩ := canon_exists HI.out.md
  have HIm := Lib.hid (image_str (HI.out.new_ HM2.out.1).md hc0 hp0)
  have HC := Lib.hid (show _ ∧ _ from ⟨hc0, hp0⟩)
  clear hc0 hp0
  go_wp2_with fail
  refine HIm.out.mono ?_
  rintro e w3 ⟨A3, n3, c3, rfl, hb3, hk3⟩
  have HS0 := Lib.hid (show ShS w w3 (w.heap.size + 1) w.heap.size (w1.heap.size + 1) w1.heap.size A3 n3 L0 R [] from
    ⟨(HI.out.new_ (HM2.out.1.trans hk3 (fun _ x => x.elim))).md, HM2.out.2.new_ hk3, hb3, (HI.out.kp.trans HM2.out.1 (fun _ x => x.elim)).trans hk3 (fun _ x => x.elim), by have := HI.out.md.lt; omega⟩)
  have hn3 : n3 = 2 + 9 * L0.length := by rw [← img_len]; exact hb3.len.symm
  have hL3 : L0.length ≤ 300 := by
    have h1 := expand_len (s := L0) (fun p hp => ⟨HC.out.1.pos p hp, HOK.out _ (HC.out.2.mem_iff.1 (mem_expand.2 ⟨p.2, hp, HC.out.1.pos p hp⟩))⟩)
    have h2 := HC.out.2.length_eq
    have := HR3.out
    omega
  have HN3 := Lib.hid (show _ ∧ _ from ⟨hn3, hL3⟩)
  obtain ⟨ad, hA, hc0⟩ := hb3.at_ (k := 0) (by omega)
  obtain ⟨ad', hA', hc1⟩ := hb3.at_ (k := 1) (by omega)
  obtain rfl : ad = ad' := Option.some.inj (hA.symm.trans hA')
  subst hA
  obtain ⟨x, y, hxy, hx, hy, e0, e1⟩ : ∃ x y : Nat, x * 256 + y = L0.length ∧ x < 256 ∧ y < 256 ∧ w3.cell? (ad.add 0) = some (.int .u8 x) ∧ w3.cell? (ad.add 1) = some (.int .u8 y) :=
    ⟨_, _, by have := pair_of (x := (L0.length : Nat)) (by omega) (by omega); omega, byt_lt _, byt_lt _, hc0, hc1⟩
  have d1 : decide ((n3 : Int) < 2) = false := decide_eq_false (by omega)
  have d1' : decide (n3 < 2) = false := decide_eq_false (by omega)
  have d2 : ((n3 : Int) != 2 + 9 * ((x : Int) * 256 + (y : Int))) = false := by
    rw [bne_eq_false_iff_eq]; omega
  have e00 : w3.cell? ad = some (.int .u8 x) := e0
  have e01 : w3.cell? ⟨ad.block, ad.off + 1, none⟩ = some (.int .u8 y) := e1
  have hw1 : IntKind.i64.wrap ((x : Int) * 256) = (x : Int) * 256 := fit64 (by omega) (by omega)
  have hw2 : IntKind.i64.wrap ((x : Int) * 256 + (y : Int)) = (x : Int) * 256 + (y : Int) := fit64 (by omega) (by omega)
  have hw3 : IntKind.i64.wrap (9 * ((x : Int) * 256 + (y : Int))) = 9 * ((x : Int) * 256 + (y : Int)) := fit64 (by omega) (by omega)
  have hw4 : IntKind.i64.wrap (2 + 9 * ((x : Int) * 256 + (y : Int))) = 2 + 9 * ((x : Int) * 256 + (y : Int)) := fit64 (by omega) (by omega)
  have g0 : (0 : Int) < (n3 : Int) := by omega
  have g1 : (1 : Int) < (n3 : Int) := by omega
  have g2 : 0 < n3 := by omega
  have g3 : 1 < n3 := by omega
  clear hb3 hk3 hA' hc0 hc1 hn3 hL3 hxy HI HM2 HIm
  generalize w1.heap.size + 1 = nm at *
  generalize w1.heap.size = nb at *
  have hwx : IntKind.i64.wrap ((x : Nat) : Int) = (x : Nat) := fit64 (by omega) (by omega)
  have hwy : IntKind.i64.wrap ((y : Nat) : Int) = (y : Nat) := fit64 (by omega) (by omega)
  go_wp2_with fail
  go_quiet (fail)
  have HS1 := Lib.hid (HS0.out.new_ ((Keep.refl No w3).drewN nq))
  clear e0 e1 e00 e01 d1 d1' HS0 hwx hwy hw1 hw2 hw3 hw4 g0 g1 g2 g3
  generalize w3.drewN nq = w4 at *
  generalize hB : some ad = B3 at *
  go_wp2_with fail
  clear d2 hx hy hB
  go_loopg [9, 10] L0.length (fun kx s9 s10 wr => ∃ k m tt : Nat, s9 = .int .i64 tt ∧ s10 = .int .i64 m ∧ Hid (m = 2 + 9 * k ∧ tt = (expand (L0.take k)).length) ∧ k ≤ L0.length ∧ L0.length ≤ k + kx ∧ m ≤ 5000 ∧ tt ≤ 500 ∧ Hid (ShS w wr (w.heap.size + 1) w.heap.size nm nb B3 n3 L0 R (expand (L0.take k))))
  case atStart => exact ⟨0, 2, 0, rfl, rfl, Lib.hid ⟨rfl, by simp [expand]⟩, Nat.zero_le _, by omega, by omega, by omega, HS1⟩
  case round =>
    clear HS1
    obtain ⟨k, m, tt, rfl, rfl, HM, hk, hkx, hm5, htt, HS⟩ := hrel
    by_cases hlt : k < L0.length
    · have hmn : m + 8 < n3 := by have := HM.out.1; have := HN3.out.1; omega
      have hgd : decide ((m : Int) < (n3 : Int)) = true := decide_eq_true (by omega)
      have j0 : (0 : Int) ≤ (m : Int) := by omega
      have hok := HOK.out _ (HC.out.2.mem_iff.1 (mem_expand.2 ⟨L0[k].2, List.getElem_mem hlt, HC.out.1.pos _ (List.getElem_mem hlt)⟩))
      have htm : L0[k].2 ≤ 500 := by have := times_le (List.getElem_mem hlt); have := HC.out.2.length_eq; have := HR3.out; omega
      have HOM := Lib.hid (show _ ∧ _ from ⟨hok, htm⟩)
      clear hok htm
      go_wp2_with fail
      have HB0 := Lib.hid (Blk.new wr 33 #[.int .i64 0, .int .i64 0, .int .i64 0, .int .i64 0])
      have HS2 := Lib.hid (HS.out.new_ ((Keep.refl No wr).alloc (.cells #[.int .i64 0, .int .i64 0, .int .i64 0, .int .i64 0] 33)))
      have HG := Lib.hid (show wr.heap.size ≠ nm ∧ wr.heap.size ≠ nb ∧ w.heap.size ≤ wr.heap.size from by have := HS.out.nn.lt; have := HS.out.kp.size; omega)
      clear HS
      generalize wr.heap.size = g at *
      generalize wr.alloc (.cells #[.int .i64 0, .int .i64 0, .int .i64 0, .int .i64 0] 33) = wa at *
      obtain ⟨ad, x0, x1, x2, x3, x4, x5, x6, x7, x8, hA, hni, hC0⟩ := img_cells HS2.out.by_ hlt HOM.out.1 HOM.out.2
      subst hA
      rw [← HM.out.1] at hC0
      have HC0 := Lib.hid hC0
      have HNI := Lib.hid hni
      obtain ⟨y0, y1, y2, y3, y4, y5, y6, y7, y8⟩ := hni.u
      clear hC0 hni
      refine wp_loop_rounds 4 ?_
      have ea : wa.cell? (ad.add m) = some (.int .u8 x0) := HC0.out.e0
      have eb : wa.cell? ⟨ad.block, ad.off + (m + 1), none⟩ = some (.int .u8 x1) := HC0.out.e1
      have hc : wa.cell? ⟨g, 0, none⟩ = some (.int .i64 0) := HB0.out.cell 0
      have hz : wa.frozen? ⟨g, 0, none⟩ = false := HB0.out.frozen 0
      have za : IntKind.i64.wrap (0 : Int) = 0 := rfl
      have zb : IntKind.i64.wrap ((m : Int)) = (m : Int) := fit64 (by omega) (by omega)
      have zc : IntKind.i64.wrap ((m : Int) + 1) = (m : Int) + 1 := fit64 (by omega) (by omega)
      have zd : IntKind.i64.wrap ((m : Int) + 1) = (m : Int) + 1 := fit64 (by omega) (by omega)
      have hwx : IntKind.i64.wrap ((x0 : Nat) : Int) = (x0 : Nat) := fit64 (by omega) (by omega)
      have hwy : IntKind.i64.wrap ((x1 : Nat) : Int) = (x1 : Nat) := fit64 (by omega) (by omega)
      have q1 : IntKind.i64.wrap ((x0 : Int) * 256) = (x0 : Int) * 256 := fit64 (by omega) (by omega)
      have q2 : IntKind.i64.wrap ((x0 : Int) * 256 + (x1 : Int)) = (x0 : Int) * 256 + (x1 : Int) := fit64 (by omega) (by omega)
      have q3 : IntKind.i64.wrap ((x0 : Int) * 256 + (x1 : Int) - 1000) = (x0 : Int) * 256 + (x1 : Int) - 1000 := fit64 (by omega) (by omega)
      have i0 : (m : Int) < (n3 : Int) := by omega
      have i1 : (m : Int) + 1 < (n3 : Int) := by omega
      have p0 : (0 : Int) ≤ (m : Int) := by omega
      have p1 : (0 : Int) ≤ (m : Int) + 1 := by omega
      have t0 : ((m : Int)).toNat = m := by omega
      have t1 : ((m : Int) + 1).toNat = m + 1 := by omega
      rw [rounds_succ]
      go_wp2_with fail
      go_still_tail 23, (by kernel_rfl)
      go_wp2_with fail
      have HB1 : Hid (Blk (wa.setCell ⟨g, 0, none⟩ (.int .i64 ((x0 : Int) * 256 + (x1 : Int) - 1000))).drew g 33 #[.int .i64 ((x0 : Int) * 256 + (x1 : Int) - 1000), .int .i64 0, .int .i64 0, .int .i64 0]) := Lib.hid (HB0.out.set_ 0 (.int .i64 ((x0 : Int) * 256 + (x1 : Int) - 1000)))
      have HS3 := Lib.hid (HS2.out.put (i := 0) (v := (.int .i64 ((x0 : Int) * 256 + (x1 : Int) - 1000))) HB0.out HG.out.2.2)
      have HC1 := Lib.hid (HC0.out.put (i := 0) (v := (.int .i64 ((x0 : Int) * 256 + (x1 : Int) - 1000))) HB0.out)
      clear ea eb hc hz za zb zc zd hwx hwy q1 q2 q3 i0 i1 p0 p1 t0 t1 HS2 HB0
      generalize (wa.setCell ⟨g, 0, none⟩ (.int .i64 ((x0 : Int) * 256 + (x1 : Int) - 1000))).drew = wb at *
      have ea : wb.cell? ⟨ad.block, ad.off + (m + 2), none⟩ = some (.int .u8 x2) := HC1.out.e2
      have eb : wb.cell? ⟨ad.block, ad.off + (m + 3), none⟩ = some (.int .u8 x3) := HC1.out.e3
      have hc : wb.cell? ⟨g, 1, none⟩ = some (.int .i64 0) := HB1.out.cell 1
      have hz : wb.frozen? ⟨g, 1, none⟩ = false := HB1.out.frozen 1
      have za : IntKind.i64.wrap (2 : Int) = 2 := rfl
      have zb : IntKind.i64.wrap ((m : Int) + 2) = (m : Int) + 2 := fit64 (by omega) (by omega)
      have zc : IntKind.i64.wrap ((m : Int) + 3) = (m : Int) + 3 := fit64 (by omega) (by omega)
      have zd : IntKind.i64.wrap ((m : Int) + 2 + 1) = (m : Int) + 3 := (fit64 (by omega) (by omega)).trans (by omega)
      have hwx : IntKind.i64.wrap ((x2 : Nat) : Int) = (x2 : Nat) := fit64 (by omega) (by omega)
      have hwy : IntKind.i64.wrap ((x3 : Nat) : Int) = (x3 : Nat) := fit64 (by omega) (by omega)
      have q1 : IntKind.i64.wrap ((x2 : Int) * 256) = (x2 : Int) * 256 := fit64 (by omega) (by omega)
      have q2 : IntKind.i64.wrap ((x2 : Int) * 256 + (x3 : Int)) = (x2 : Int) * 256 + (x3 : Int) := fit64 (by omega) (by omega)
      have q3 : IntKind.i64.wrap ((x2 : Int) * 256 + (x3 : Int) - 1000) = (x2 : Int) * 256 + (x3 : Int) - 1000 := fit64 (by omega) (by omega)
      have i0 : (m : Int) + 2 < (n3 : Int) := by omega
      have i1 : (m : Int) + 3 < (n3 : Int) := by omega
      have p0 : (0 : Int) ≤ (m : Int) + 2 := by omega
      have p1 : (0 : Int) ≤ (m : Int) + 3 := by omega
      have t0 : ((m : Int) + 2).toNat = m + 2 := by omega
      have t1 : ((m : Int) + 3).toNat = m + 3 := by omega
      rw [rounds_succ]
      go_wp2_with fail
      go_still_tail 23, (by kernel_rfl)
      go_wp2_with fail
      have HB2 : Hid (Blk (wb.setCell ⟨g, 1, none⟩ (.int .i64 ((x2 : Int) * 256 + (x3 : Int) - 1000))).drew g 33 #[.int .i64 ((x0 : Int) * 256 + (x1 : Int) - 1000), .int .i64 ((x2 : Int) * 256 + (x3 : Int) - 1000), .int .i64 0, .int .i64 0]) := Lib.hid (HB1.out.set_ 1 (.int .i64 ((x2 : Int) * 256 + (x3 : Int) - 1000)))
      have HS4 := Lib.hid (HS3.out.put (i := 1) (v := (.int .i64 ((x2 : Int) * 256 + (x3 : Int) - 1000))) HB1.out HG.out.2.2)
      have HC2 := Lib.hid (HC1.out.put (i := 1) (v := (.int .i64 ((x2 : Int) * 256 + (x3 : Int) - 1000))) HB1.out)
      clear ea eb hc hz za zb zc zd hwx hwy q1 q2 q3 i0 i1 p0 p1 t0 t1 HS3 HB1
      generalize (wb.setCell ⟨g, 1, none⟩ (.int .i64 ((x2 : Int) * 256 + (x3 : Int) - 1000))).drew = wc at *
      have ea : wc.cell? ⟨ad.block, ad.off + (m + 4), none⟩ = some (.int .u8 x4) := HC2.out.e4
      have eb : wc.cell? ⟨ad.block, ad.off + (m + 5), none⟩ = some (.int .u8 x5) := HC2.out.e5
      have hc : wc.cell? ⟨g, 2, none⟩ = some (.int .i64 0) := HB2.out.cell 2
      have hz : wc.frozen? ⟨g, 2, none⟩ = false := HB2.out.frozen 2
      have za : IntKind.i64.wrap (4 : Int) = 4 := rfl
      have zb : IntKind.i64.wrap ((m : Int) + 4) = (m : Int) + 4 := fit64 (by omega) (by omega)
      have zc : IntKind.i64.wrap ((m : Int) + 5) = (m : Int) + 5 := fit64 (by omega) (by omega)
      have zd : IntKind.i64.wrap ((m : Int) + 4 + 1) = (m : Int) + 5 := (fit64 (by omega) (by omega)).trans (by omega)
      have hwx : IntKind.i64.wrap ((x4 : Nat) : Int) = (x4 : Nat) := fit64 (by omega) (by omega)
      have hwy : IntKind.i64.wrap ((x5 : Nat) : Int) = (x5 : Nat) := fit64 (by omega) (by omega)
      have q1 : IntKind.i64.wrap ((x4 : Int) * 256) = (x4 : Int) * 256 := fit64 (by omega) (by omega)
      have q2 : IntKind.i64.wrap ((x4 : Int) * 256 + (x5 : Int)) = (x4 : Int) * 256 + (x5 : Int) := fit64 (by omega) (by omega)
      have q3 : IntKind.i64.wrap ((x4 : Int) * 256 + (x5 : Int) - 1000) = (x4 : Int) * 256 + (x5 : Int) - 1000 := fit64 (by omega) (by omega)
      have i0 : (m : Int) + 4 < (n3 : Int) := by omega
      have i1 : (m : Int) + 5 < (n3 : Int) := by omega
      have p0 : (0 : Int) ≤ (m : Int) + 4 := by omega
      have p1 : (0 : Int) ≤ (m : Int) + 5 := by omega
      have t0 : ((m : Int) + 4).toNat = m + 4 := by omega
      have t1 : ((m : Int) + 5).toNat = m + 5 := by omega
      rw [rounds_succ]
      go_wp2_with fail
      go_still_tail 23, (by kernel_rfl)
      go_wp2_with fail
      have HB3 : Hid (Blk (wc.setCell ⟨g, 2, none⟩ (.int .i64 ((x4 : Int) * 256 + (x5 : Int) - 1000))).drew g 33 #[.int .i64 ((x0 : Int) * 256 + (x1 : Int) - 1000), .int .i64 ((x2 : Int) * 256 + (x3 : Int) - 1000), .int .i64 ((x4 : Int) * 256 + (x5 : Int) - 1000), .int .i64 0]) := Lib.hid (HB2.out.set_ 2 (.int .i64 ((x4 : Int) * 256 + (x5 : Int) - 1000)))
      have HS5 := Lib.hid (HS4.out.put (i := 2) (v := (.int .i64 ((x4 : Int) * 256 + (x5 : Int) - 1000))) HB2.out HG.out.2.2)
      have HC3 := Lib.hid (HC2.out.put (i := 2) (v := (.int .i64 ((x4 : Int) * 256 + (x5 : Int) - 1000))) HB2.out)
      clear ea eb hc hz za zb zc zd hwx hwy q1 q2 q3 i0 i1 p0 p1 t0 t1 HS4 HB2
      generalize (wc.setCell ⟨g, 2, none⟩ (.int .i64 ((x4 : Int) * 256 + (x5 : Int) - 1000))).drew = wd at *
      obtain ⟨r, hr⟩ : ∃ r, r = L0[k].1 := ⟨_, rfl⟩
      obtain ⟨t, ht⟩ : ∃ t, t = L0[k].2 := ⟨_, rfl⟩
      have hok : okRow L0[k].1 := HOM.out.1
      have HMO := Lib.hid (expand_more hlt)
      have hp1 := HC.out.1.pos _ (List.getElem_mem hlt)
      have hp2 := times_le (List.getElem_mem hlt)
      rw [HC.out.2.length_eq] at hp2
      have hni := HNI.out
      rw [← hr, ← ht] at hni HMO
      rw [← ht] at hp1 hp2
      rw [← hr] at hok
      have hRR := HR3.out
      have hgg := HMO.out.length_eq
      rw [List.length_append, List.length_replicate, ← HM.out.2] at hgg
      have HNX := Lib.hid hgg
      have hle : (expand (L0.take (k + 1))).length ≤ 300 := by
        have h1 : (expand (L0.take (k + 1)) ++ expand (L0.drop (k + 1))).length = R.length := by rw [← expand_app, List.take_append_drop, HC.out.2.length_eq]
        rw [List.length_append] at h1
        omega
      have htt3 : t + tt ≤ 300 := by omega
      have HL0 := Lib.hid hok
      have HNI2 := Lib.hid hni
      have ea : wd.cell? ⟨ad.block, ad.off + (m + 6), none⟩ = some (.int .u8 x6) := HC3.out.e6
      have eb : wd.cell? ⟨ad.block, ad.off + (m + 5 + 1), none⟩ = some (.int .u8 x6) := HC3.out.e6
      have ec : wd.cell? (ad.add (m + 6)) = some (.int .u8 x6) := HC3.out.e6
      have hc : wd.cell? ⟨g, 3, none⟩ = some (.int .i64 0) := HB3.out.cell 3
      have hz : wd.frozen? ⟨g, 3, none⟩ = false := HB3.out.frozen 3
      have zb : IntKind.i64.wrap ((m : Int) + 6) = (m : Int) + 6 := fit64 (by omega) (by omega)
      have hwx : IntKind.i64.wrap ((x6 : Nat) : Int) = (x6 : Nat) := fit64 (by omega) (by omega)
      have i0 : (m : Int) + 6 < (n3 : Int) := by omega
      have p0 : (0 : Int) ≤ (m : Int) + 6 := by omega
      have t0 : ((m : Int) + 6).toNat = m + 6 := by omega
      clear hr ht hni hok hgg hRR hle
      rw [rounds_succ]
      go_upto_region 19 with fail
      have HB4 : Hid (Blk (wd.setCell ⟨g, 3, none⟩ (.int .i64 x6)) g 33 #[.int .i64 r.a, .int .i64 r.b, .int .i64 r.c, .int .i64 r.l]) := Lib.hid (by
        have h := HB3.out.set_ 3 (.int .i64 x6)
        have e0 : (x0 : Int) * 256 + (x1 : Int) - 1000 = r.a := by have := HNI2.out.a; omega
        have e1 : (x2 : Int) * 256 + (x3 : Int) - 1000 = r.b := by have := HNI2.out.b; omega
        have e2 : (x4 : Int) * 256 + (x5 : Int) - 1000 = r.c := by have := HNI2.out.c; omega
        have e3 : (x6 : Int) = r.l := HNI2.out.l
        rw [e0, e1, e2] at h
        rw [e3] at h ⊢
        exact h)
      have HS6 := Lib.hid (HS5.out.put0 (i := 3) (v := .int .i64 x6) HB3.out HG.out.2.2)
      have HC4 := Lib.hid (HC3.out.put0 (i := 3) (v := .int .i64 x6) HB3.out)
      clear ea eb ec hc hz zb hwx i0 p0 t0 HS5 HB3 HC3
      generalize wd.setCell ⟨g, 3, none⟩ (.int .i64 x6) = we at *
      have ea : we.cell? ⟨ad.block, ad.off + (m + 7), none⟩ = some (.int .u8 x7) := HC4.out.e7
      have ec : we.cell? ⟨ad.block, ad.off + (m + 6 + 1), none⟩ = some (.int .u8 x7) := HC4.out.e7
      have ea' : we.cell? ⟨ad.block, ad.off + (m + 8), none⟩ = some (.int .u8 x8) := HC4.out.e8
      have ec' : we.cell? ⟨ad.block, ad.off + (m + 7 + 1), none⟩ = some (.int .u8 x8) := HC4.out.e8
      have zb : IntKind.i64.wrap ((m : Int) + 7) = (m : Int) + 7 := fit64 (by omega) (by omega)
      have zb' : IntKind.i64.wrap ((m : Int) + 8) = (m : Int) + 8 := fit64 (by omega) (by omega)
      have hwx : IntKind.i64.wrap ((x7 : Nat) : Int) = (x7 : Nat) := fit64 (by omega) (by omega)
      have hwy : IntKind.i64.wrap ((x8 : Nat) : Int) = (x8 : Nat) := fit64 (by omega) (by omega)
      have q1 : IntKind.i64.wrap ((x7 : Int) * 256) = (x7 : Int) * 256 := fit64 (by omega) (by omega)
      have q2 : IntKind.i64.wrap ((x7 : Int) * 256 + (x8 : Int)) = (t : Nat) := (fit64 (by omega) (by omega)).trans HNI2.out.t
      have i0 : (m : Int) + 7 < (n3 : Int) := by omega
      have i1 : (m : Int) + 8 < (n3 : Int) := by omega
      have p0 : (0 : Int) ≤ (m : Int) + 7 := by omega
      have p1 : (0 : Int) ≤ (m : Int) + 8 := by omega
      have t0 : ((m : Int) + 7).toNat = m + 7 := by omega
      have t1 : ((m : Int) + 8).toNat = m + 8 := by omega
      go_quiet (fail)
      have HS7 := Lib.hid (HS6.out.new_ ((Keep.refl No we).drewN nq))
      have HB5 : Hid (Blk (we.drewN nq) g 33 #[.int .i64 r.a, .int .i64 r.b, .int .i64 r.c, .int .i64 r.l]) := HB4
      clear ea ec ea' ec' zb zb' hwx hwy q1 q2 i0 i1 p0 p1 t0 t1 HS6 HB4 HC4 HNI HNI2 y0 y1 y2 y3 y4 y5 y6 y7 y8
      generalize we.drewN nq = wf at *
      have dA : decide ((t : Int) < 1) = false := decide_eq_false (by omega)
      have dA' : decide (t < 1) = false := decide_eq_false (by omega)
      have dB : decide ((R.length : Int) < (t : Int)) = false := decide_eq_false (by omega)
      have dB' : decide (R.length < t) = false := decide_eq_false (by omega)
      go_wp2_with fail
      clear dA dA' dB dB'
      go_loopg [9, 127] t (fun ky s9 s127 wr => ∃ j : Nat, s127 = .int .i64 j ∧ s9 = .int .i64 ((tt + j : Nat) : Int) ∧ j ≤ t ∧ t ≤ j + ky ∧ Hid (ShS w wr (w.heap.size + 1) w.heap.size nm nb (some ad) n3 L0 R (List.replicate j r ++ expand (L0.take k))) ∧ Hid (Blk wr g 33 #[.int .i64 r.a, .int .i64 r.b, .int .i64 r.c, .int .i64 r.l]))
      case atStart => exact ⟨0, rfl, by simp, Nat.zero_le _, by omega, HS7, HB5⟩
      case round =>
        clear HS7 HB5
        obtain ⟨j, rfl, rfl, hj, hjy, HS8, HB6⟩ := hrel
        have jj0 : (0 : Int) ≤ (j : Int) := by omega
        by_cases hjt : j < t
        · have hgd3 : decide ((j : Int) < (t : Int)) = true := decide_eq_true (by omega)
          have b0 := HB6.out.cell 0
          have b1 := HB6.out.cell 1
          have b2 := HB6.out.cell 2
          have b3 := HB6.out.cell 3
          simp only [List.getElem?_toArray, List.getElem?_cons_zero, List.getElem?_cons_succ] at b0 b1 b2 b3
          have HL := Lib.hid (learn_yes r HS8.out.nn HL0.out (by have := HS8.out.nn.len; rw [List.length_append, List.length_replicate] at this ⊢; have := HNX.out; have := HMO.out.length_eq; have h2 := HM.out.2; omega))
          have HF := Lib.hid (fun W' (hn : Mdl w.heap.size W' nm nb (r :: (List.replicate j r ++ expand (L0.take k)))) (hk : Keep (fun x => x = nm ∨ x = nb) _ W') => show ShS w W' (w.heap.size + 1) w.heap.size nm nb (some ad) n3 L0 R (List.replicate (j + 1) r ++ expand (L0.take k)) ∧ Blk W' g 33 #[.int .i64 r.a, .int .i64 r.b, .int .i64 r.c, .int .i64 r.l] from ⟨HS8.out.onn (by rw [List.replicate_succ, List.cons_append]; exact hn) hk, HB6.out.keep hk (fun e => e.elim HG.out.1 HG.out.2.1)⟩)
          have hwt : IntKind.i64.wrap (((tt + j : Nat) : Int) + 1) = ((tt + (j + 1) : Nat) : Int) := (fit64 (by omega) (by omega)).trans (by omega)
          unfold Row.v at HL
          clear HS8 HB6
          go_wp2_with fail
          refine HL.out.mono ?_
          rintro e w5 ⟨rfl, hn5, hk5⟩
          have HS9 := Lib.hid (HF.out w5 hn5 hk5)
          clear hn5 hk5 HL HF b0 b1 b2 b3
          generalize hT : tt + j = tj at *
          go_wp2_with fail
          go_roundg (t - (j + 1))
          case measure => omega
          case rel => exact ⟨j + 1, by go_num, by first | rfl | go_num, by omega, by omega, Lib.hid HS9.out.1, Lib.hid HS9.out.2⟩
        · obtain rfl : j = t := by omega
          have hgd3 : decide ((j : Int) < (j : Int)) = false := decide_eq_false (by omega)
          have HSn := Lib.hid (HS8.out.permD HMO.out)
          have HNT := Lib.hid (show m + 9 = 2 + 9 * (k + 1) ∧ tt + j = (expand (L0.take (k + 1))).length from ⟨by have := HM.out.1; omega, by have := HNX.out; omega⟩)
          clear HS8 HB6
          have hm9 : IntKind.i64.wrap ((m : Int) + 9) = ((m + 9 : Nat) : Int) := (fit64 (by omega) (by omega)).trans (by omega)
          have htj : tt + j ≤ 500 := by omega
          have hm9' : m + 9 ≤ 5000 := by have := HM.out.1; have := HN3.out.2; omega
          generalize tt + j = tj at *
          generalize m + 9 = m9 at *
          clear HMO HNX
          go_wp2_with fail
          go_roundg (L0.length - (k + 1))
          case measure => omega
          case rel => exact ⟨k + 1, m9, tj, rfl, rfl, HNT, by omega, by omega, hm9', htj, HSn⟩
    · obtain rfl : k = L0.length := by omega
      have hgd : decide ((m : Int) < (n3 : Int)) = false := decide_eq_false (by have := HM.out.1; have := HN3.out.1; omega)
      have hgd' : decide (m < n3) = false := decide_eq_false (by have := HM.out.1; have := HN3.out.1; omega)
      have hge : ¬ (m : Int) < (n3 : Int) := by have := HM.out.1; have := HN3.out.1; omega
      have HT0 := Lib.hid (show tt = R.length from by have := HM.out.2; rw [List.take_length, HC.out.2.length_eq] at this; exact this)
      have HEn := Lib.hid (show EqM w wr (w.heap.size + 1) w.heap.size nm nb R (expand L0) from ⟨HS.out.m, by have := HS.out.nn; rwa [List.take_length] at this, HC.out.2, HS.out.kp⟩)
      have HBy := Lib.hid HS.out.by_
      clear HS
      go_wp2_with fail
      go_loopg [138] qs.length (fun ky s138 wr => ∃ k : Nat, s138 = .int .i64 k ∧ k ≤ qs.length ∧ qs.length ≤ k + ky ∧ Hid (EqM w wr (w.heap.size + 1) w.heap.size nm nb R (expand L0)) ∧ Hid (Bytes 0 wr B3 n3 (imgL L0)))
      case atStart => exact ⟨0, rfl, Nat.zero_le _, by omega, HEn, HBy⟩
      case round =>
        clear HEn HBy
        obtain ⟨k, rfl, hk, hky, HE, HBy⟩ := hrel
        by_cases hlt : k < qs.length
        · obtain ⟨ad, hA, e0, e1, e2, e3, e4, e5, e6, e7⟩ := AsksIn.cells (show AsksIn base wr Aq qs from Reads.new_ HQ.out.1 HE.out.kp) hlt
          subst hA
          have hqk := HQ.out.2 _ (List.getElem_mem hlt)
          generalize qs[k] = q at *
          have ka := (Keep.refl No wr).alloc (.cells #[.int .i64 q.x.a, .int .i64 q.x.b, .int .i64 q.x.c, .int .i64 q.k, .int .i64 q.by_, .int .i64 q.of_, .int .i64 q.deep, .int .i64 q.least] 64)
          have HE2 := Lib.hid (HE.out.new_ ka)
          have HBy2 := Lib.hid (HBy.out.new_ ka)
          have HEq := Lib.hid (equal_any HE2.out.m HE2.out.n HE2.out.pm.symm q.x q.k q.by_ q.of_ q.deep q.least hqk)
          unfold askV at HEq
          have j0 : (0 : Int) ≤ (k : Int) := by omega
          have j1 : (k : Int) < (qs.length : Int) := by omega
          have hk5 : k < 500 := by have := HQL.out; omega
          clear ka HE hqk HBy
          go_wp2_with fail
          refine HEq.out.mono ?_
          rintro e w7 ⟨rfl, hk7⟩
          have HE7 := Lib.hid (HE2.out.new_ hk7)
          have HBy7 := Lib.hid (HBy2.out.new_ hk7)
          clear hk7 HE2 HEq HBy2 e0 e1 e2 e3 e4 e5 e6 e7
          go_wp2_with fail
          go_roundg (qs.length - (k + 1))
          case measure => omega
          case rel => exact ⟨k + 1, by go_num, by omega, by omega, HE7, HBy7⟩
        · obtain rfl : k = qs.length := by omega
          have hc0 := HC.out.1
          have hp0 := HC.out.2
          have HIb := Lib.hid (fun W (hW : Keep No wr W) => image_str (HE.out.n.new_ hW) hc0 (List.Perm.refl _))
          have HKW := Lib.hid HE.out.kp
          have htr : ((tt : Int) == (R.length : Int)) = true := by rw [HT0.out]; exact beq_self_eq_true _
          have htr' : (tt == R.length) = true := by rw [HT0.out]; exact beq_self_eq_true _
          generalize imgL L0 = im at *
          clear hc0 hp0 HE
          go_wp2_with fail
          have K0 := Lib.hid ((Keep.refl No wr).drew)
          have HCV := Lib.hid (fun W (hW : Keep No wr W) => Bytes.conv (P := Try.prog) (HBy.out.new_ hW) c3 Try.underlying41 Try.underlying5 Try.underlying9)
          refine wp_region_noPanic ?_
          refine wp_region_held_drew (S := fun W => Keep No wr W) (by kernel_rfl) K0.out (fun hHeld => ?_)
          refine wpAnyH_take (i := 0) (oi := ({ dst := some 148, op := Op.move (Operand.tmp 9), type := 3, pos := "law.go:349", after := #[], guard := none } : Oper)) (v := ?_) rfl (by kernel_rfl) (by kernel_rfl) (by kernel_rfl) (fun _ _ _ h => h) (Or.inl ⟨by rfl, ?_⟩) (by assumption) ?_
          rotate_left
          · (intro w hSw; (try dsimp only at hSw); go_simp; try with_reducible rfl)
          (try simp only [Act.put, List.setIfInBounds_toArray, List.set_cons_zero, List.set_cons_succ])
          refine wpAnyH_take (i := 1) (oi := ({ dst := some 149, op := Op.move (Operand.tmp 6), type := 22, pos := "law.go:349", after := #[], guard := none } : Oper)) (v := ?_) rfl (by kernel_rfl) (by kernel_rfl) (by kernel_rfl) (fun _ _ _ h => h) (Or.inl ⟨by rfl, ?_⟩) (by assumption) ?_
          rotate_left
          · (intro w hSw; (try dsimp only at hSw); go_simp; try with_reducible rfl)
          (try simp only [Act.put, List.setIfInBounds_toArray, List.set_cons_zero, List.set_cons_succ])
          refine wpAnyH_take (i := 2) (oi := ({ dst := some 150, op := Op.call { callee := Callee.builtin Builtin.len, args := #[Operand.tmp 149], argTypes := #[22] }, type := 3, pos := "law.go:349", after := #[{ on := 1, ground := Ground.data }], guard := none } : Oper)) (v := ?_) rfl (by kernel_rfl) (by kernel_rfl) (by kernel_rfl) (fun _ _ _ h => h) (Or.inl ⟨by rfl, ?_⟩) (by assumption) ?_
          rotate_left
          · (intro w hSw; (try dsimp only at hSw); go_simp; try with_reducible rfl)
          (try simp only [Act.put, List.setIfInBounds_toArray, List.set_cons_zero, List.set_cons_succ])
          refine wpAnyH_take (i := 3) (oi := ({ dst := some 151, op := Op.binOp BinOp.eql 3 (Operand.tmp 148) (Operand.tmp 150) 3, type := 4, pos := "law.go:349", after := #[{ on := 0, ground := Ground.data }, { on := 2, ground := Ground.data }], guard := none } : Oper)) (v := ?_) rfl (by kernel_rfl) (by kernel_rfl) (by kernel_rfl) (fun _ _ _ h => h) (Or.inl ⟨by rfl, ?_⟩) (by assumption) ?_
          rotate_left
          · (intro w hSw; (try dsimp only at hSw); go_simp; try with_reducible rfl)
          (try simp only [Act.put, List.setIfInBounds_toArray, List.set_cons_zero, List.set_cons_succ])
          refine wpAnyH_take (i := 4) (oi := ({ dst := some 152, op := Op.move (Operand.tmp 151), type := 4, pos := "law.go:349", after := #[{ on := 3, ground := Ground.data }], guard := none } : Oper)) (v := ?_) rfl (by kernel_rfl) (by kernel_rfl) (by kernel_rfl) (fun _ _ _ h => h) (Or.inl ⟨by rfl, ?_⟩) (by assumption) ?_
          rotate_left
          · (intro w hSw; (try dsimp only at hSw); go_simp; try with_reducible rfl)
          (try simp only [Act.put, List.setIfInBounds_toArray, List.set_cons_zero, List.set_cons_succ])
          refine wpAnyH_take (i := 5) (oi := ({ dst := some 153, op := Op.move (Operand.tmp 7), type := 23, pos := "law.go:349", after := #[{ on := 4, ground := Ground.guard }], guard := some (4, true) } : Oper)) (v := ?_) rfl (by kernel_rfl) (by kernel_rfl) (by kernel_rfl) (fun _ _ _ h => h) (Or.inl ⟨by rfl, ?_⟩) (by assumption) ?_
          rotate_left
          · (intro w hSw; (try dsimp only at hSw); go_simp; try with_reducible rfl)
          (try simp only [Act.put, List.setIfInBounds_toArray, List.set_cons_zero, List.set_cons_succ])
          refine wpAnyH_take (i := 8) (oi := ({ dst := some 156, op := Op.move (Operand.tmp 8), type := 41, pos := "law.go:349", after := #[{ on := 4, ground := Ground.guard }], guard := some (4, true) } : Oper)) (v := ?_) rfl (by kernel_rfl) (by kernel_rfl) (by kernel_rfl) (fun _ _ _ h => h) (Or.inl ⟨by rfl, ?_⟩) (by assumption) ?_
          rotate_left
          · (intro w hSw; (try dsimp only at hSw); go_simp; try with_reducible rfl)
          (try simp only [Act.put, List.setIfInBounds_toArray, List.set_cons_zero, List.set_cons_succ])
          refine wpAnyH_take (i := 9) (oi := ({ dst := some 157, op := Op.convert 41 9 (Operand.tmp 156), type := 9, pos := "law.go:349", after := #[{ on := 8, ground := Ground.data }, { on := 4, ground := Ground.guard }], guard := some (4, true) } : Oper)) (v := ?_) rfl (by kernel_rfl) (by kernel_rfl) (by kernel_rfl) (fun _ _ _ h => h) (Or.inl ⟨by rfl, ?_⟩) (by assumption) ?_
          rotate_left
          · (intro w hSw; (try dsimp only at hSw); have hcvw := HCV.out _ hSw; go_simp; try with_reducible rfl)
          (try simp only [Act.put, List.setIfInBounds_toArray, List.set_cons_zero, List.set_cons_succ])
          refine wpAnyH_ready (rs := [6]) (by kernel_rfl) (by simp) ?_
          refine AllReadyH.cons (o := ({ dst := some 154, op := Op.call { callee := Callee.value (Operand.func 17), args := #[Operand.tmp 153], argTypes := #[23] }, type := 41, pos := "law.go:349", after := #[{ on := 5, ground := Ground.data }, { on := 4, ground := Ground.chain }, { on := 4, ground := Ground.guard }], guard := some (4, true) } : Oper)) rfl (fun K hK => ?_) AllReadyH.nil
          go_simp
          go_at_call 17
          refine (HIb.out _ K0.out).mono ?_
          rintro e w15 ⟨A6, n6, c6, rfl, hb6, hkc⟩
          have hcv6 := Bytes.conv (P := Try.prog) hb6 c6 Try.underlying41 Try.underlying5 Try.underlying9
          have K4 := Lib.hid (K0.out.trans hkc (fun _ x => x.elim))
          clear hkc hb6
          go_wp2_with fail
          refine hK.out _ _ (show Keep No wr _ from K4.out) (fun hH2 => ?_)
          clear hHeld hK
          have hHeld := hH2
          clear hH2 K
          (try simp only [Act.put, List.setIfInBounds_toArray, List.set_cons_zero, List.set_cons_succ])
          refine wpAnyH_ready (rs := [7]) (by kernel_rfl) (by simp) ?_
          refine AllReadyH.cons (o := ({ dst := some 155, op := Op.convert 41 9 (Operand.tmp 154), type := 9, pos := "law.go:349", after := #[{ on := 6, ground := Ground.data }, { on := 4, ground := Ground.guard }], guard := some (4, true) } : Oper)) rfl (fun K hK => ?_) AllReadyH.nil
          go_simp
          refine hK.out _ _ (show Keep No wr _ from K4.out) (fun hH2 => ?_)
          clear hHeld hK
          have hHeld := hH2
          clear hH2 K
          (try simp only [Act.put, List.setIfInBounds_toArray, List.set_cons_zero, List.set_cons_succ])
          refine wpAnyH_take (i := 10) (oi := ({ dst := some 158, op := Op.binOp BinOp.eql 9 (Operand.tmp 155) (Operand.tmp 157) 9, type := 4, pos := "law.go:349", after := #[{ on := 7, ground := Ground.data }, { on := 9, ground := Ground.data }, { on := 4, ground := Ground.guard }], guard := some (4, true) } : Oper)) (v := ?_) rfl (by kernel_rfl) (by kernel_rfl) (by kernel_rfl) (fun _ _ _ h => h) (Or.inl ⟨by rfl, ?_⟩) (by assumption) ?_
          rotate_left
          · (intro w hSw; (try dsimp only at hSw); go_simp; try with_reducible rfl)
          (try simp only [Act.put, List.setIfInBounds_toArray, List.set_cons_zero, List.set_cons_succ])
          refine wpAnyH_take (i := 11) (oi := ({ dst := some 159, op := Op.pick (Operand.tmp 152) (Operand.tmp 158) (Operand.const (Value.bool false)), type := 4, pos := "law.go:349", after := #[{ on := 4, ground := Ground.data }, { on := 10, ground := Ground.data }], guard := none } : Oper)) (v := ?_) rfl (by kernel_rfl) (by kernel_rfl) (by kernel_rfl) (fun _ _ _ h => h) (Or.inl ⟨by rfl, ?_⟩) (by assumption) ?_
          rotate_left
          · (intro w hSw; (try dsimp only at hSw); go_simp; try with_reducible rfl)
          (try simp only [Act.put, List.setIfInBounds_toArray, List.set_cons_zero, List.set_cons_succ])
          refine wpAnyH_take (i := 12) (oi := ({ dst := some 160, op := Op.move (Operand.tmp 159), type := 4, pos := "law.go:349", after := #[{ on := 11, ground := Ground.data }, { on := 6, ground := Ground.chain }], guard := none } : Oper)) (v := ?_) rfl (by kernel_rfl) (by kernel_rfl) (by kernel_rfl) (fun _ _ _ h => h) (Or.inl ⟨by rfl, ?_⟩) (by assumption) ?_
          rotate_left
          · (intro w hSw; (try dsimp only at hSw); go_simp; try with_reducible rfl)
          (try simp only [Act.put, List.setIfInBounds_toArray, List.set_cons_zero, List.set_cons_succ])
          refine wpAnyH_ready (rs := [13]) (by kernel_rfl) (by simp) ?_
          refine AllReadyH.cons (o := ({ dst := some 161, op := Op.call { callee := Callee.value (Operand.func 12), args := #[], argTypes := #[] }, type := 4, pos := "law.go:349", after := #[{ on := 12, ground := Ground.chain }, { on := 12, ground := Ground.guard }], guard := some (12, true) } : Oper)) rfl (fun K hK => ?_) AllReadyH.nil
          go_simp
          go_at_call 12
          refine (HAl.out _).mono ?_
          rintro e w16 ⟨rfl, hkc⟩
          have K5 := Lib.hid (K4.out.trans hkc (fun _ x => x.elim))
          clear hkc
          go_wp2_with fail
          refine hK.out _ _ (show Keep No wr _ from K5.out) (fun hH2 => ?_)
          clear hHeld hK
          have hHeld := hH2
          clear hH2 K
          (try simp only [Act.put, List.setIfInBounds_toArray, List.set_cons_zero, List.set_cons_succ])
          refine wpAnyH_take (i := 14) (oi := ({ dst := some 162, op := Op.pick (Operand.tmp 160) (Operand.tmp 161) (Operand.const (Value.bool false)), type := 4, pos := "law.go:349", after := #[{ on := 12, ground := Ground.data }, { on := 13, ground := Ground.data }], guard := none } : Oper)) (v := ?_) rfl (by kernel_rfl) (by kernel_rfl) (by kernel_rfl) (fun _ _ _ h => h) (Or.inl ⟨by rfl, ?_⟩) (by assumption) ?_
          rotate_left
          · (intro w hSw; (try dsimp only at hSw); go_simp; try with_reducible rfl)
          (try simp only [Act.put, List.setIfInBounds_toArray, List.set_cons_zero, List.set_cons_succ])
          refine wpAnyH_take (i := 15) (oi := ({ dst := some 4, op := Op.assign (Operand.tmp 162), type := 4, pos := "law.go:349", after := #[{ on := 14, ground := Ground.data }, { on := 13, ground := Ground.chain }, { on := 0, ground := Ground.phase }, { on := 1, ground := Ground.phase }, { on := 2, ground := Ground.phase }, { on := 3, ground := Ground.phase }, { on := 4, ground := Ground.phase }, { on := 5, ground := Ground.phase }, { on := 6, ground := Ground.phase }, { on := 7, ground := Ground.phase }, { on := 8, ground := Ground.phase }, { on := 9, ground := Ground.phase }, { on := 10, ground := Ground.phase }, { on := 11, ground := Ground.phase }, { on := 12, ground := Ground.phase }, { on := 13, ground := Ground.phase }, { on := 14, ground := Ground.phase }], guard := none } : Oper)) (v := ?_) rfl (by kernel_rfl) (by kernel_rfl) (by kernel_rfl) (fun _ _ _ h => h) (Or.inl ⟨by rfl, ?_⟩) (by assumption) ?_
          rotate_left
          · (intro w hSw; (try dsimp only at hSw); go_simp; try with_reducible rfl)
          (try simp only [Act.put, List.setIfInBounds_toArray, List.set_cons_zero, List.set_cons_succ])
          refine wpAnyH_done (by kernel_rfl) ?_ _
          refine NoPanic.normal ?_
          go_wp2_with fail
          go_ret
          exact ⟨rfl, HKW.out.trans K5.out (fun _ x => x.elim)⟩
end Go.Proofs.Ytgabidgpngiecaa
