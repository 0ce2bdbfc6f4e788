/- Contract of the law's built. Conditions: each names its own. -/
import Derived.Test.YtgabidgpngiecaaGreatL8
import Derived.Test.YtgabidgpngiecaaGreatLP2
namespace Go.Proofs.YtgabidgpngiecaaGreat
open Go.RowKit Go.Proofs.YtgabidgpngiecaaGreatKit Go.Proofs.YtgabidgpngiecaaGreatPlain

theorem info_row : (Tryz.prog.info? 30).map (fun i => (i.zero, i.size, i.bytes)) = some (some (.agg #[.int .i64 0, .int .i64 0, .int .i64 0, .int .i64 0]), 4, 32) := by kernel_rfl
theorem w64 {k n : Nat} (h : n ≤ maxLen) (hk : k < n) : wrap64 ((k : Int) + 1) = (k : Int) + 1 := by
  have h2 : n ≤ 9223372036854775807 := h
  unfold wrap64
  omega
/-! ### Rows in slices -/
def rcells (l : List Row) : List Value := (l.map Row.cells).flatten
theorem rcells_push (l : List Row) (r : Row) : rcells l ++ r.cells = rcells (l ++ [r]) := by simp [rcells]
theorem rcells_length : ∀ l : List Row, (rcells l).length = l.length * 4
  | [] => rfl
  | p :: l => by
    have := rcells_length l
    unfold rcells at *
    rw [List.map_cons, List.flatten_cons, List.length_append, this, List.length_cons, show p.cells.length = 4 from rfl]
    omega
theorem rcells_get : ∀ (l : List Row) (k : Nat) (hk : k < l.length) (j : Nat) (u : Value), l[k].cells[j]? = some u → (rcells l)[k * 4 + j]? = some u
  | p :: l, 0, _, j, u, h => by
    have e : rcells (p :: l) = p.cells ++ rcells l := by simp [rcells]
    have hj : j < 4 := (List.getElem?_eq_some_iff.1 h).1
    rw [e, Nat.zero_mul, Nat.zero_add, List.getElem?_append_left (by exact hj)]
    exact h
  | p :: l, k + 1, hk, j, u, h => by
    have e : rcells (p :: l) = p.cells ++ rcells l := by simp [rcells]
    rw [e, List.getElem?_append_right (by show 4 ≤ _; omega), show p.cells.length = 4 from rfl, show (k + 1) * 4 + j - 4 = k * 4 + j by omega]
    exact rcells_get l k (by simpa using hk) j u h
/-- The slice holds these rows. -/
def RowsIn (base : Nat) (w : World) (A : Option Addr) (l : List Row) : Prop := Reads base w 30 4 A l.length (rcells l)
theorem RowsIn.at_ {base : Nat} {w : World} {A : Option Addr} {l : List Row} (h : RowsIn base w A l) {k : Nat} (hk : k < l.length) : ∃ ad, A = some ad ∧ (ad.add (k * 4)).block < w.heap.size ∧
    w.cell? (ad.add (k * 4)) = some (.int .i64 l[k].a) ∧ w.cell? ⟨(ad.add (k * 4)).block, (ad.add (k * 4)).off + 1, none⟩ = some (.int .i64 l[k].b) ∧
    w.cell? ⟨(ad.add (k * 4)).block, (ad.add (k * 4)).off + 2, none⟩ = some (.int .i64 l[k].c) ∧ w.cell? ⟨(ad.add (k * 4)).block, (ad.add (k * 4)).off + 3, none⟩ = some (.int .i64 l[k].l) := by
  obtain ⟨ad, hA, hb, hc⟩ := h.2 (by omega)
  refine ⟨ad, hA, by rw [block_of_add]; exact hb.lt, ?_, ?_, ?_, ?_⟩
  · exact hc (k * 4 + 0) _ (rcells_get l k hk 0 _ rfl)
  · rw [add_field ad (k * 4) 1 (by omega)]; exact hc (k * 4 + 1) _ (rcells_get l k hk 1 _ rfl)
  · rw [add_field ad (k * 4) 2 (by omega)]; exact hc (k * 4 + 2) _ (rcells_get l k hk 2 _ rfl)
  · rw [add_field ad (k * 4) 3 (by omega)]; exact hc (k * 4 + 3) _ (rcells_get l k hk 3 _ rfl)
/-- Rows in a block of the call's own. -/
def ROwn (B : Nat) (w : World) (v : Value) (l : List Row) : Prop := w.ownsRow B 30 4 v l.length (rcells l)
theorem ROwn.keep {B : Nat} {w w' : World} {v : Value} {l : List Row} {S : Nat → Prop} (h : ROwn B w v l) (hk : Keep S w w') (hs : ∀ k, v.ownBlock = some k → ¬ S k) : ROwn B w' v l := own_keep h hk hs
theorem ROwn.lt {B : Nat} {w : World} {v : Value} {l : List Row} (h : ROwn B w v l) : ∀ k, v.ownBlock = some k → B ≤ k ∧ k < w.heap.size := World.ownsRow.lt h
theorem ROwn.shape {B : Nat} {w : World} {v : Value} {l : List Row} (h : ROwn B w v l) : ∃ A c, v = .slice A l.length c ∧ ∀ base, RowsIn base w A l := by
  have hv : ∃ A c, v = .slice A l.length c := by
    rcases h.2 with ⟨h1, h2⟩ | ⟨g, cap, _, h1, _⟩
    · exact ⟨none, 0, by rw [h1, h2]⟩
    · exact ⟨_, _, h1⟩
  obtain ⟨A, c, rfl⟩ := hv
  exact ⟨A, c, rfl, fun base => Reads.of_own h rfl⟩
/-- A model and rows. -/
structure BI (w W : World) (mb b : Nat) (v : Value) (R : List Row) : Prop where
  md : Mdl w.heap.size W mb b R
  ro : ROwn w.heap.size W v R
  kp : Keep No w W
section
variable {w W W' : World} {mb b : Nat} {v v' : Value} {R : List Row}
theorem BI.ne (h : BI w W mb b v R) : ∀ k, v.ownBlock = some k → k ≠ mb ∧ k ≠ b := by
  intro k hk
  obtain ⟨_, ⟨rfl, _⟩ | ⟨g, cap, cur, rfl, _, hg, _⟩⟩ := h.ro
  · cases hk
  · cases hk
    obtain ⟨s, hs, _⟩ := h.md
    constructor
    · rintro rfl
      have h2 := hs.blk
      unfold Blk at h2
      rw [hg] at h2
      injection h2 with h2
      injection h2 with _ h3 _
      exact absurd h3 (by decide)
    · rintro rfl
      obtain ⟨es, clock, h4, _⟩ := hs.map
      rw [hg] at h4
      cases h4
theorem BI.new_ (h : BI w W mb b v R) (hk : Keep No W W') : BI w W' mb b v R := ⟨h.md.new_ hk, h.ro.keep hk (fun _ _ x => x), h.kp.trans hk (fun _ x => x.elim)⟩
theorem BI.learn {r : Row} {W3 W4 : World} (h : BI w W mb b v R) (hm : Mdl w.heap.size W3 mb b (r :: R)) (hk : Keep (fun x => x = mb ∨ x = b) W W3) (o : Obj) (ho : W4.ownsRow w.heap.size 30 4 v' (R.length + 1) (rcells R ++ r.cells)) (hg : (W3.alloc o).grownBy W4 v.ownBlock) : BI w W4 mb b v' (R ++ [r]) := by
  have hk4 : Keep (fun x => v.ownBlock = some x) W3 W4 := ((Keep.refl _ W3).alloc o).grown hg (fun k e => .inl e)
  refine ⟨(hm.keep hk4 (fun e => (h.ne _ e).1 rfl) (fun e => (h.ne _ e).2 rfl)).perm (List.perm_append_singleton r R).symm, ?_, ?_⟩
  · unfold ROwn
    rw [← rcells_push, List.length_append]
    exact ho
  · refine (h.kp.trans hk (fun x e => .inr ?_)).trans hk4 (fun x e => .inr (h.ro.lt x e).1)
    have := h.md.ge
    rcases e with rfl | rfl <;> omega
theorem BI.own3 {W3 : World} (h : BI w W mb b v R) (hk : Keep (fun x => x = mb ∨ x = b) W W3) (o : Obj) : ROwn w.heap.size (W3.alloc o) v R :=
  (h.ro.keep hk (fun k e hs => by have := h.ne k e; rcases hs with rfl | rfl <;> simp at this)).keep ((Keep.refl No W3).alloc o) (fun _ _ x => x)
theorem row_one (r : Row) : ∀ u ∈ r.cells, u.oneCell' = true := by
  intro u hu
  simp [Row.cells] at hu
  rcases hu with rfl | rfl | rfl | rfl <;> rfl
theorem row_new {base : Nat} {W : World} (r : Row) : Reads base (W.alloc (.cells #[.int .i64 r.a, .int .i64 r.b, .int .i64 r.c, .int .i64 r.l] 30)) 30 4 (some ⟨W.heap.size, 0, none⟩) 1 r.cells := by
  have hB := Blk.new W 30 #[.int .i64 r.a, .int .i64 r.b, .int .i64 r.c, .int .i64 r.l]
  refine ⟨rfl, fun _ => ⟨_, rfl, hB.imm rfl, fun j u hu => ?_⟩⟩
  have := hB.cell j
  rw [Addr.add_lit, Nat.zero_add, this]
  simpa [Row.cells] using hu
end

set_option maxHeartbeats 2000000 in
set_option maxRecDepth 100000 in
theorem built_any {base : Nat} {w : World} {A : Option Addr} {c : Nat} {l : List Row} (h : RowsIn base w A l) (hmax : l.length ≤ maxLen) :
    Calls Tryz.prog 23 #[.slice A l.length c, .int .i64 300] w fun e w' => ∃ v R, e = .returned (.tuple #[.pointer (some ⟨w.heap.size + 1, 0, none⟩), v]) ∧ BI w w' (w.heap.size + 1) w.heap.size v R ∧ R.length ≤ 300 := by
  obtain ⟨i0, hi0, hz0, hz1, hz2⟩ := info_parts info_row
  have HA := Lib.hid h
  have HX := Lib.hid hmax
  clear h hmax
  go_enter Tryz.func23, Tryz.ntmps23
  go_wp2_with (go_at_call 5; refine (new_any w).mono ?_; rintro e w' ⟨rfl, rfl⟩)
  have HI := Lib.hid (show BI w ((w.alloc (.map #[] 0)).alloc (.cells #[.bool true, .map (some w.heap.size), .int .i64 0] 43)) (w.heap.size + 1) w.heap.size (.slice none 0 0) [] from
    ⟨Mdl.made (Nat.le_refl _), World.ownsRow_nil _ _ _ _, ((Keep.refl No w).alloc _).alloc _⟩)
  generalize (w.alloc (.map #[] 0)).alloc (.cells #[.bool true, .map (some w.heap.size), .int .i64 0] 43) = w1 at *
  go_loopw [7, 13] (fun v7 v13 wr => ∃ (k : Nat) (R : List Row), k ≤ l.length ∧ v13 = .int .i64 k ∧ Hid (BI w wr (w.heap.size + 1) w.heap.size v7 R) ∧ Hid (R.length ≤ k ∧ R.length ≤ 300)) (fun _ i _ => l.length - (intOf i).toNat)
  case atStart => exact ⟨0, [], Nat.zero_le _, rfl, HI, Lib.hid ⟨Nat.le_refl _, Nat.zero_le _⟩⟩
  case round =>
    clear HI
    obtain ⟨k, R, hk, rfl, hI, hR⟩ := hrel
    by_cases hlt : k < l.length
    · obtain ⟨ad, rfl, hab, e0, e1, e2, e3⟩ := RowsIn.at_ (show RowsIn base wr A l from Reads.new_ HA.out hI.out.kp) hlt
      generalize l[k] = p at *
      have j0 : (0 : Int) ≤ (k : Int) := by omega
      have j1 : (k : Int) < (l.length : Int) := by omega
      by_cases h3 : k < 300
      · have d1 : decide ((k : Int) < 300) = true := decide_eq_true (by omega)
        by_cases hp : okRow p
        · have HB0 := Lib.hid (Blk.new wr 30 #[.int .i64 p.a, .int .i64 p.b, .int .i64 p.c, .int .i64 p.l])
          have HI1 := Lib.hid (hI.out.new_ ((Keep.refl No wr).alloc (.cells #[.int .i64 p.a, .int .i64 p.b, .int .i64 p.c, .int .i64 p.l] 30)))
          have HL := Lib.hid (learn_yes p HI1.out.md hp (by have := hR.out; omega))
          have HM := Lib.hid (hI.out.md.lt)
          have hRk := Lib.hid (show R.length ≤ k ∧ R.length < 300 from by have := hR.out; omega)
          unfold Row.v at HL
          clear hI hR hp
          go_wp2_with (first
            | (go_at_call 9; refine HL.out.mono ?_; rintro e w3 ⟨rfl, hm3, hk3⟩
               have hB3 := HB0.out.keep hk3 (fun e => by have := HM.out; omega)
               have g0 := hB3.cell 0
               have g1 := hB3.cell 1
               have g2 := hB3.cell 2
               have g3 := hB3.cell 3
               simp only [List.getElem?_toArray, List.getElem?_cons_zero, List.getElem?_cons_succ] at g0 g1 g2 g3
               have H3 := Lib.hid (show _ ∧ _ from ⟨hm3, hk3⟩); clear hm3 hk3 hB3)
            | (at_builtin; refine wpList_append_any _ rfl (.tmp 31) (.tmp 33) _ rfl w.heap.size 30 i0 _ 4 32 Tryz.underlying27 hi0 hz0 hz1 hz2 rfl (by omega) _ _ _ rfl (HI1.out.own3 H3.out.2 _) 0 _ 1 1 p.cells rfl (row_new p) (row_one p) (by have := hRk.out; simp [maxLen]; omega) (by have := hRk.out; omega) (by have := HI1.out.kp.size; have := H3.out.2.size; simp at *; omega) ?_
               intro v4 w4 hown4 hg4 _; have H4 := Lib.hid (HI1.out.learn H3.out.1 H3.out.2 _ hown4 hg4); clear hown4 hg4))
          go_roundw
          case rel => exact ⟨k + 1, R ++ [p], by omega, by go_num, H4, Lib.hid (by have := hRk.out; simp; omega)⟩
          case measure => simp [intOf]; omega
        · have HL := Lib.hid (fun W (hW : Keep No wr W) => learn_bad p (hI.out.new_ hW).md hp)
          unfold Row.v at HL
          go_wp2_with (go_at_call 9; refine (HL.out _ ((Keep.refl No wr).alloc _)).mono ?_; rintro e w' ⟨rfl, hk'⟩; have HK := Lib.hid (((Keep.refl No wr).alloc _).trans hk' (fun _ x => x.elim)); clear hk')
          go_roundw
          case measure => simp [intOf]; omega
          case rel => exact ⟨k + 1, R, by omega, by go_num, Lib.hid (hI.out.new_ HK.out), Lib.hid (by have := hR.out; omega)⟩
      · have d1 : decide ((k : Int) < 300) = false := decide_eq_false (by omega)
        have hw64 := w64 HX.out hlt
        have HW := Lib.hid hw64
        clear hw64
        go_wp2_with fail
        try rw [HW.out]
        clear HX HW
        go_roundw
        case rel =>
          have HI2 := Lib.hid (hI.out.new_ ((Keep.refl No wr).alloc (.cells #[.int .i64 p.a, .int .i64 p.b, .int .i64 p.c, .int .i64 p.l] 30)))
          have HR2 := Lib.hid (show R.length ≤ k + 1 ∧ R.length ≤ 300 from by have := hR.out; omega)
          exact ⟨k + 1, R, hlt, by go_num, HI2, HR2⟩
        case measure =>
          simp [intOf]
          omega
    · have hkL : k = l.length := by omega
      subst hkL
      have j1 : (l.length : Int) ≤ (l.length : Int) := Int.le_refl _
      go_wp2
      go_ret2
      exact ⟨_, R, rfl, hI.out, hR.out.2⟩
end Go.Proofs.YtgabidgpngiecaaGreat
