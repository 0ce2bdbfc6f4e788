/- Contract of learn's lowest. Conditions: each names its own. -/
import Derived.Test.YtgabidgpngiecaaGreatL7
import Derived.Deep.MidRow
namespace Go.Proofs.YtgabidgpngiecaaGreat
open Go.RowKit Go.Proofs.YtgabidgpngiecaaGreatKit Go.Proofs.YtgabidgpngiecaaGreatPlain

def fracV (p q : Int) : Value := .agg #[.int .i64 p, .int .i64 q]

theorem gcd_abs {a num den : Int} (h : a.gcd 0 = num.gcd den) : a = (num.gcd den : Int) ∨ -a = (num.gcd den : Int) := by
  rw [Int.gcd_zero_right] at h
  omega
theorem tdiv_abs (n g : Int) : (n.tdiv g).natAbs ≤ n.natAbs := by
  rw [Int.natAbs_tdiv]
  exact Nat.div_le_self ..
theorem tdiv_fit {n g : Int} (h : Mid n) : IntKind.i64.wrap (n.tdiv g) = n.tdiv g := by
  have h1 := tdiv_abs n g
  unfold Mid at h
  exact fit64 (by omega) (by omega)
theorem rem_lt {a b : Int} (hb : b ≠ 0) : (a.tmod b).natAbs < b.natAbs := by
  rw [Int.natAbs_tmod]
  exact Nat.mod_lt _ (by omega)
theorem rem_fit {a b : Int} (h : Mid b) (hb : b ≠ 0) : IntKind.i64.wrap (a.tmod b) = a.tmod b ∧ Mid (a.tmod b) := by
  have h1 := rem_lt (a := a) hb
  unfold Mid at *
  exact ⟨fit64 (by omega) (by omega), by omega⟩

theorem info_size_frac : (Tryz.prog.info? 46).map (·.size) = some 2 := by kernel_rfl
theorem lowest_zero {num den p q : Int} (h : Lowest num den p q) (hp : p = 0) (_hd : 0 < den) : Lowest num den 0 1 := by
  obtain ⟨h1, h2, h3, h4⟩ := h
  subst hp
  have hq : q = 1 := by rw [Int.gcd_zero_left] at h4; omega
  subst hq
  exact ⟨by omega, h2, h3, by simp⟩

set_option maxHeartbeats 2000000 in
set_option maxRecDepth 100000 in
theorem lowest_any {num den : Int} (w : World) (hn : Mid num) (hd : Mid den) (hp : 0 < den) :
    Calls Tryz.prog 34 #[.int .i64 num, .int .i64 den] w fun e w' => ∃ p q, e = .returned (fracV p q) ∧ Lowest num den p q ∧ Keep No w w' := by
  go_enter Tryz.func34, Tryz.ntmps34
  go_wp2_with fail
  have HB := Lib.hid (Blk.new w 46 #[.int .i64 0, .int .i64 0])
  have HK := Lib.hid ((Keep.refl No w).alloc (.cells #[.int .i64 0, .int .i64 0] 46))
  generalize w.alloc (.cells #[.int .i64 0, .int .i64 0] 46) = w1 at *
  have H0 := Lib.hid (show _ ∧ _ from ⟨hn, hd⟩)
  have HP := Lib.hid hp
  clear hn hd hp
  go_loopw [5, 6] (fun v5 v6 wr => ∃ a b : Int, v5 = .int .i64 a ∧ v6 = .int .i64 b ∧ Hid (Int.gcd a b = Int.gcd num den ∧ Mid a ∧ Mid b) ∧ Hid (∃ q, wr = w1.drewN q)) (fun _ v _ => (intOf v).natAbs)
  case atStart => exact ⟨num, den, rfl, rfl, Lib.hid ⟨rfl, H0.out.1, H0.out.2⟩, Lib.hid ⟨0, rfl⟩⟩
  case round =>
    obtain ⟨a, b, rfl, rfl, hI, hW⟩ := hrel
    obtain ⟨q0, hq0⟩ := hW.out
    have HBr := Lib.hid (show Blk wr w.heap.size 46 #[.int .i64 0, .int .i64 0] from hq0 ▸ HB.out.drewN q0)
    have HKr := Lib.hid (show Keep No w wr from hq0 ▸ HK.out.drewN q0)
    by_cases hb : b = 0
    · subst hb
      clear hq0 hW HB HK
      have hg := gcd_abs hI.out.1
      have hgp : 0 < Int.gcd num den := Int.gcd_pos_of_ne_zero_right _ (by have := HP.out; omega)
      have hL := Lib.hid (lowest_of (num := num) HP.out)
      obtain ⟨g, hgd⟩ : ∃ g : Int, g = (Int.gcd num den : Int) := ⟨_, rfl⟩
      rw [← hgd] at hL hg
      have hg0 : 0 < g := by omega
      have hg1 : g ≠ 0 := by omega
      have hgm : g ≤ 1000000000000000 := by have := hI.out.2.1; unfold Mid at this; omega
      have hwn := tdiv_fit (g := g) H0.out.1
      have hwd := tdiv_fit (g := g) H0.out.2
      obtain ⟨p, hpe⟩ : ∃ p, num.tdiv g = p := ⟨_, rfl⟩
      obtain ⟨q, hqe⟩ : ∃ q, den.tdiv g = q := ⟨_, rfl⟩
      rw [hpe] at hL hwn
      rw [hqe] at hL hwd
      have HI := Lib.hid hgd
      clear hgd hI H0
      have f0 := HBr.out.cell 0
      have f1 := HBr.out.cell 1
      have z0 := HBr.out.frozen 0
      have z1 := HBr.out.frozen 1
      have hlt := HBr.out.lt
      simp only [List.getElem?_toArray, List.getElem?_cons_zero, List.getElem?_cons_succ] at f0 f1
      by_cases ha : a < 0
      · have hneg : IntKind.i64.wrap (-a) = g := by rw [show -a = g by omega]; exact fit64 (by omega) (by omega)
        go_wp2_with fail
        go_region
        all_goals
          go_wp2_with fail
          all_goals first
            | (rename_i h0
               have hL0 := lowest_zero hL.out h0 HP.out
               exact bodyPost_ret (results_cell_row rfl _ _ w.heap.size 46 #[.int .i64 0, .int .i64 1] (0, 0) _ rfl (((HBr.out.set_ 0 (.int .i64 0)).set_ 1 (.int .i64 1)).alloc _).drew Tryz.underlying46 rfl info_size_frac) rfl
                 ⟨0, 1, rfl, hL0, (((HKr.out.setCell (p := ⟨w.heap.size, 0, none⟩) (.inr (Nat.le_refl _)) _).setCell (p := ⟨w.heap.size, 1, none⟩) (.inr (Nat.le_refl _)) _).alloc _).drew⟩)
            | (exact bodyPost_ret (results_cell_row rfl _ _ w.heap.size 46 #[.int .i64 p, .int .i64 q] (0, 0) _ rfl (((HBr.out.set_ 0 (.int .i64 p)).set_ 1 (.int .i64 q)).alloc _).drew Tryz.underlying46 rfl info_size_frac) rfl
                 ⟨p, q, rfl, hL.out, (((HKr.out.setCell (p := ⟨w.heap.size, 0, none⟩) (.inr (Nat.le_refl _)) _).setCell (p := ⟨w.heap.size, 1, none⟩) (.inr (Nat.le_refl _)) _).alloc _).drew⟩)
      · obtain rfl : a = g := by omega
        go_wp2_with fail
        go_region
        all_goals
          go_wp2_with fail
          all_goals first
            | (rename_i h0
               have hL0 := lowest_zero hL.out h0 HP.out
               exact bodyPost_ret (results_cell_row rfl _ _ w.heap.size 46 #[.int .i64 0, .int .i64 1] (0, 0) _ rfl (((HBr.out.set_ 0 (.int .i64 0)).set_ 1 (.int .i64 1)).alloc _).drew Tryz.underlying46 rfl info_size_frac) rfl
                 ⟨0, 1, rfl, hL0, (((HKr.out.setCell (p := ⟨w.heap.size, 0, none⟩) (.inr (Nat.le_refl _)) _).setCell (p := ⟨w.heap.size, 1, none⟩) (.inr (Nat.le_refl _)) _).alloc _).drew⟩)
            | (exact bodyPost_ret (results_cell_row rfl _ _ w.heap.size 46 #[.int .i64 p, .int .i64 q] (0, 0) _ rfl (((HBr.out.set_ 0 (.int .i64 p)).set_ 1 (.int .i64 q)).alloc _).drew Tryz.underlying46 rfl info_size_frac) rfl
                 ⟨p, q, rfl, hL.out, (((HKr.out.setCell (p := ⟨w.heap.size, 0, none⟩) (.inr (Nat.le_refl _)) _).setCell (p := ⟨w.heap.size, 1, none⟩) (.inr (Nat.le_refl _)) _).alloc _).drew⟩)
    · have hb' := hb
      clear HBr HKr
      have hwr := rem_fit (a := a) (b := b) hI.out.2.2 hb
      have hms : Mid (a.tmod b) := hwr.2
      have hwr1 := hwr.1
      clear hwr
      go_wp2_with fail
      go_quiet (fail)
      go_wp2_with fail
      go_roundw
      case rel => exact ⟨b, a.tmod b, rfl, rfl, Lib.hid ⟨(gcd_step a b).trans hI.out.1, hI.out.2.2, hms⟩, Lib.hid (by exact ⟨q0 + nq, by first | rfl | (simp [World.drewN, Nat.add_assoc]) | (rw [hq0]; simp [World.drewN, Nat.add_assoc])⟩)⟩
      case measure => simp [intOf]; exact Nat.mod_lt _ (by omega)
end Go.Proofs.YtgabidgpngiecaaGreat

namespace Go.Proofs.YtgabidgpngiecaaGreat
open Go.RowKit Go.Proofs.YtgabidgpngiecaaGreatKit Go.Proofs.YtgabidgpngiecaaGreatPlain

theorem results_cells {P : Program} {fn : Func} {p p' u : Tmp} {ty : TypeId} (h : fn.results = #[.cell p ty, .cell p' ty, .tmp u]) (tmps : Array Value) (w : World) (g g' : Nat) (t : TypeId) (cs cs' : Array Value) (fr : Nat × Nat) (d : TypeDesc)
    (hp : tmps.getD p undef = .pointer (some ⟨g, 0, none⟩)) (hp2 : tmps.getD p' undef = .pointer (some ⟨g', 0, none⟩)) (hg : w.heap[g]? = some (.cells cs t fr)) (hg2 : w.heap[g']? = some (.cells cs' t fr))
    (hu : P.underlying ty = some d) (hd : (match d with | .struct _ | .array _ _ => true | _ => false) = true) (hi : (P.info? ty).map (·.size) = some cs.size) (hi2 : (P.info? ty).map (·.size) = some cs'.size) :
    (results fn tmps).run P w = .ok (.tuple #[.agg cs, .agg cs', tmps.getD u undef]) w := by
  have hp' : tmps[p]?.getD undef = .pointer (some ⟨g, 0, none⟩) := by simpa using hp
  have hp2' : tmps[p']?.getD undef = .pointer (some ⟨g', 0, none⟩) := by simpa using hp2
  simp [results, h, hp', hp2', asAddr, run_loadVar_row w g t ty cs fr d hg hu hd hi, run_loadVar_row w g' t ty cs' fr d hg2 hu hd hi2]

/-- What Line hands back of the rows l. -/
def LineRet (i j : Nat) (l : List Row) (e : Ending) : Prop :=
  (disc (fun r => r.x i) l = 0 ∧ e = .returned (.tuple #[fracV 0 0, fracV 0 0, .int .i64 3])) ∨
  (0 < disc (fun r => r.x i) l ∧ ∃ p q p' q', e = .returned (.tuple #[fracV p q, fracV p' q', .int .i64 0]) ∧
    Lowest ((l.length : Int) * sumf (fun r => r.x i * r.x j) l - sumf (fun r => r.x i) l * sumf (fun r => r.x j) l) (disc (fun r => r.x i) l) p q ∧
    Lowest (sumf (fun r => r.x j) l * sumf (fun r => r.x i * r.x i) l - sumf (fun r => r.x i) l * sumf (fun r => r.x i * r.x j) l) (disc (fun r => r.x i) l) p' q')
structure LSt (w W : World) (i j : Nat) (n x y xx xy : Int) : Prop where
  b1 : Blk W w.heap.size 46 #[.int .i64 0, .int .i64 0]
  b2 : Blk W (w.heap.size + 1) 46 #[.int .i64 0, .int .i64 0]
  sm : Sm W (w.heap.size + 1 + 1) i j n x y xx xy
  kp : Keep No w W
theorem LSt.new_ {w W W' : World} {i j : Nat} {n x y xx xy : Int} (h : LSt w W i j n x y xx xy) (hk : Keep No W W') : LSt w W' i j n x y xx xy :=
  ⟨h.b1.keep hk (fun x => x), h.b2.keep hk (fun x => x), Blk.keep h.sm hk (fun x => x), h.kp.trans hk (fun _ x => x.elim)⟩
theorem LSt.start (w : World) (i j : Nat) : LSt w (((w.alloc (.cells #[.int .i64 0, .int .i64 0] 46)).alloc (.cells #[.int .i64 0, .int .i64 0] 46)).alloc (.cells #[.int .i64 (i : Nat), .int .i64 (j : Nat), .int .i64 0, .int .i64 0, .int .i64 0, .int .i64 0, .int .i64 0] 79)) i j 0 0 0 0 0 := by
  have h2 := Blk.new (w.alloc (.cells #[.int .i64 0, .int .i64 0] 46)) 46 #[.int .i64 0, .int .i64 0]
  have hz : (w.alloc (.cells #[.int .i64 0, .int .i64 0] 46)).heap.size = w.heap.size + 1 := by simp
  rw [hz] at h2
  have h3 := Blk.new ((w.alloc (.cells #[.int .i64 0, .int .i64 0] 46)).alloc (.cells #[.int .i64 0, .int .i64 0] 46)) 79 #[.int .i64 (i : Nat), .int .i64 (j : Nat), .int .i64 0, .int .i64 0, .int .i64 0, .int .i64 0, .int .i64 0]
  have hz : ((w.alloc (.cells #[.int .i64 0, .int .i64 0] 46)).alloc (.cells #[.int .i64 0, .int .i64 0] 46)).heap.size = w.heap.size + 1 + 1 := by simp
  rw [hz] at h3
  exact ⟨((Blk.new _ _ _).alloc _).alloc _, h2.alloc _, h3, (((Keep.refl No w).alloc _).alloc _).alloc _⟩
theorem LSt.told {w W W4 W5 : World} {i j : Nat} {L : List (Row × Nat)} {l : List Row} (h : LSt w W i j 0 0 0 0 0) (hk : Keep No W W4) (hk5 : Keep (fun b => b = w.heap.size + 1 + 1) W4 W5) (hs : SmAt W5 (w.heap.size + 1 + 1) i j L) (hp : (expand L).Perm l) :
    LSt w W5 i j (l.length : Int) (sumf (fun r => r.x i) l) (sumf (fun r => r.x j) l) (sumf (fun r => r.x i * r.x i) l) (sumf (fun r => r.x i * r.x j) l) := by
  have h4 := h.new_ hk
  have e : ∀ f : Row → Int, sume f L = sumf f l := fun f => by rw [sume_expand, sumf_perm f hp]
  have e1 : sume (fun _ => 1) L = (l.length : Int) := by rw [e, sumf_const, Int.mul_one]
  unfold SmAt at hs
  rw [e1, e, e, e, e] at hs
  exact ⟨h4.b1.keep hk5 (by omega), h4.b2.keep hk5 (by omega), hs, h4.kp.trans hk5 (fun x e => .inr (by omega))⟩
theorem LSt.sum0 {w W W4 : World} {i j : Nat} (h : LSt w W i j 0 0 0 0 0) (hk : Keep No W W4) : SmAt W4 (w.heap.size + 1 + 1) i j [] := (h.new_ hk).sm
/-- The same, whatever the fractions hold. -/
structure LW (w W : World) (i j : Nat) (n x y xx xy : Int) : Prop where
  b1 : ∃ c0 c1, Blk W w.heap.size 46 #[c0, c1]
  b2 : ∃ c0 c1, Blk W (w.heap.size + 1) 46 #[c0, c1]
  sm : Sm W (w.heap.size + 1 + 1) i j n x y xx xy
  kp : Keep No w W
section
variable {w W W' : World} {i j : Nat} {n x y xx xy : Int}
theorem LSt.lw (h : LSt w W i j n x y xx xy) : LW w W i j n x y xx xy := ⟨⟨_, _, h.b1⟩, ⟨_, _, h.b2⟩, h.sm, h.kp⟩
theorem LW.new_ (h : LW w W i j n x y xx xy) (hk : Keep No W W') : LW w W' i j n x y xx xy := by
  obtain ⟨⟨_, _, h1⟩, ⟨_, _, h2⟩, h3, h4⟩ := h
  exact ⟨⟨_, _, h1.keep hk (fun x => x)⟩, ⟨_, _, h2.keep hk (fun x => x)⟩, Blk.keep h3 hk (fun x => x), h4.trans hk (fun _ x => x.elim)⟩
theorem LW.set1 (h : LW w W i j n x y xx xy) (u v : Value) : LW w ((W.setCell ⟨w.heap.size, 0, none⟩ u).setCell ⟨w.heap.size, 1, none⟩ v) i j n x y xx xy := by
  obtain ⟨⟨_, _, h1⟩, ⟨_, _, h2⟩, h3, h4⟩ := h
  refine ⟨⟨u, v, (h1.set_ 0 u).set_ 1 v⟩, ⟨_, _, (h2.far (p := ⟨w.heap.size, 0, none⟩) (by simp) u).far (p := ⟨w.heap.size, 1, none⟩) (by simp) v⟩, ?_, ?_⟩
  · exact (Blk.far h3 (p := ⟨w.heap.size, 0, none⟩) (by show w.heap.size + 1 + 1 ≠ w.heap.size; omega) u).far (p := ⟨w.heap.size, 1, none⟩) (by show w.heap.size + 1 + 1 ≠ w.heap.size; omega) v
  · exact (h4.setCell (p := ⟨w.heap.size, 0, none⟩) (.inr (Nat.le_refl _)) u).setCell (p := ⟨w.heap.size, 1, none⟩) (.inr (Nat.le_refl _)) v
theorem LW.set2 (h : LW w W i j n x y xx xy) (u v : Value) : LW w ((W.setCell ⟨w.heap.size + 1, 0, none⟩ u).setCell ⟨w.heap.size + 1, 1, none⟩ v) i j n x y xx xy := by
  obtain ⟨⟨_, _, h1⟩, ⟨_, _, h2⟩, h3, h4⟩ := h
  refine ⟨⟨_, _, (h1.far (p := ⟨w.heap.size + 1, 0, none⟩) (by simp) u).far (p := ⟨w.heap.size + 1, 1, none⟩) (by simp) v⟩, ⟨u, v, (h2.set_ 0 u).set_ 1 v⟩, ?_, ?_⟩
  · exact (Blk.far h3 (p := ⟨w.heap.size + 1, 0, none⟩) (by simp) u).far (p := ⟨w.heap.size + 1, 1, none⟩) (by simp) v
  · exact (h4.setCell (p := ⟨w.heap.size + 1, 0, none⟩) (.inr (Nat.le_succ _)) u).setCell (p := ⟨w.heap.size + 1, 1, none⟩) (.inr (Nat.le_succ _)) v
/-- Both fractions are stored. -/
theorem LW.both (h : LW w W i j n x y xx xy) (u v u' v' : Value) : Blk ((((W.setCell ⟨w.heap.size, 0, none⟩ u).setCell ⟨w.heap.size, 1, none⟩ v).setCell ⟨w.heap.size + 1, 0, none⟩ u').setCell ⟨w.heap.size + 1, 1, none⟩ v') w.heap.size 46 #[u, v] ∧ Blk ((((W.setCell ⟨w.heap.size, 0, none⟩ u).setCell ⟨w.heap.size, 1, none⟩ v).setCell ⟨w.heap.size + 1, 0, none⟩ u').setCell ⟨w.heap.size + 1, 1, none⟩ v') (w.heap.size + 1) 46 #[u', v'] := by
  obtain ⟨⟨_, _, h1⟩, ⟨_, _, h2⟩, _, _⟩ := h
  constructor
  · exact (((h1.set_ 0 u).set_ 1 v).far (p := ⟨w.heap.size + 1, 0, none⟩) (by simp) u').far (p := ⟨w.heap.size + 1, 1, none⟩) (by simp) v'
  · exact (((h2.far (p := ⟨w.heap.size, 0, none⟩) (by simp) u).far (p := ⟨w.heap.size, 1, none⟩) (by simp) v).set_ 0 u').set_ 1 v'
/-- What a cell holds. -/
def cellOf (W : World) (a : Addr) : Value := (W.cell? a).getD undef
theorem cellOf_of {a : Addr} {v : Value} (h : W.cell? a = some v) : W.cell? a = some (cellOf W a) := by
  unfold cellOf
  rw [h]
  rfl
abbrev LS (w W : World) (i j : Nat) (n x y xx xy : Int) : Prop :=
  W.cell? ⟨w.heap.size + 1 + 1, 2, none⟩ = some (.int .i64 n) ∧ W.cell? ⟨w.heap.size + 1 + 1, 3, none⟩ = some (.int .i64 x) ∧ W.cell? ⟨w.heap.size + 1 + 1, 4, none⟩ = some (.int .i64 y) ∧
  W.cell? ⟨w.heap.size + 1 + 1, 5, none⟩ = some (.int .i64 xx) ∧ W.cell? ⟨w.heap.size + 1 + 1, 6, none⟩ = some (.int .i64 xy) ∧
  W.cell? ⟨w.heap.size, 0, none⟩ = some (cellOf W ⟨w.heap.size, 0, none⟩) ∧ W.cell? ⟨w.heap.size, 1, none⟩ = some (cellOf W ⟨w.heap.size, 1, none⟩) ∧
  W.cell? ⟨w.heap.size + 1, 0, none⟩ = some (cellOf W ⟨w.heap.size + 1, 0, none⟩) ∧ W.cell? ⟨w.heap.size + 1, 1, none⟩ = some (cellOf W ⟨w.heap.size + 1, 1, none⟩) ∧
  W.frozen? ⟨w.heap.size, 0, none⟩ = false ∧ W.frozen? ⟨w.heap.size, 1, none⟩ = false ∧ W.frozen? ⟨w.heap.size + 1, 0, none⟩ = false ∧ W.frozen? ⟨w.heap.size + 1, 1, none⟩ = false ∧ LW w W i j n x y xx xy
theorem LW.s (h : LW w W i j n x y xx xy) : LS w W i j n x y xx xy := by
  obtain ⟨⟨_, _, h1⟩, ⟨_, _, h2⟩, h3, _⟩ := id h
  exact ⟨Blk.cell h3 2, Blk.cell h3 3, Blk.cell h3 4, Blk.cell h3 5, Blk.cell h3 6, cellOf_of (h1.cell 0), cellOf_of (h1.cell 1), cellOf_of (h2.cell 0), cellOf_of (h2.cell 1), h1.frozen 0, h1.frozen 1, h2.frozen 0, h2.frozen 1, h⟩
end
structure Bnd (n x y xx xy D N M : Int) : Prop where
  m1 : IntKind.i64.wrap (n * xx) = n * xx
  m2 : IntKind.i64.wrap (x * x) = x * x
  m3 : IntKind.i64.wrap (n * xx - x * x) = D
  m4 : IntKind.i64.wrap (n * xy) = n * xy
  m5 : IntKind.i64.wrap (x * y) = x * y
  m6 : IntKind.i64.wrap (n * xy - x * y) = N
  m7 : IntKind.i64.wrap (y * xx) = y * xx
  m8 : IntKind.i64.wrap (x * xy) = x * xy
  m9 : IntKind.i64.wrap (y * xx - x * xy) = M
  d1 : Mid D
  d2 : Mid N
  d3 : Mid M
theorem bnd_of {n x y xx xy : Int} (h1 : -500 ≤ n ∧ n ≤ 500) (h2 : -500000 ≤ x ∧ x ≤ 500000) (h3 : -500000 ≤ y ∧ y ≤ 500000) (h4 : -500000000 ≤ xx ∧ xx ≤ 500000000) (h5 : -500000000 ≤ xy ∧ xy ≤ 500000000) : Bnd n x y xx xy (n * xx - x * x) (n * xy - x * y) (y * xx - x * xy) := by
  have a1 := mul_bd (U := 500) (V := 500000000) h1 h4
  have a2 := mul_bd (U := 500000) (V := 500000) h2 h2
  have a3 := mul_bd (U := 500) (V := 500000000) h1 h5
  have a4 := mul_bd (U := 500000) (V := 500000) h2 h3
  have a5 := mul_bd (U := 500000) (V := 500000000) h3 h4
  have a6 := mul_bd (U := 500000) (V := 500000000) h2 h5
  refine ⟨fit64 ?_ ?_, fit64 ?_ ?_, fit64 ?_ ?_, fit64 ?_ ?_, fit64 ?_ ?_, fit64 ?_ ?_, fit64 ?_ ?_, fit64 ?_ ?_, fit64 ?_ ?_, ⟨?_, ?_⟩, ⟨?_, ?_⟩, ⟨?_, ?_⟩⟩ <;> omega
theorem bnd_rows {l : List Row} (i j : Nat) (hl : l.length ≤ 500) (hok : ∀ r ∈ l, okRow r) : Bnd (l.length : Int) (sumf (fun r => r.x i) l) (sumf (fun r => r.x j) l) (sumf (fun r => r.x i * r.x i) l) (sumf (fun r => r.x i * r.x j) l)
    (disc (fun r => r.x i) l) ((l.length : Int) * sumf (fun r => r.x i * r.x j) l - sumf (fun r => r.x i) l * sumf (fun r => r.x j) l) (sumf (fun r => r.x j) l * sumf (fun r => r.x i * r.x i) l - sumf (fun r => r.x i) l * sumf (fun r => r.x i * r.x j) l) := by
  have b1 := sumf_bound (f := fun r => r.x i) (l := l) (k := 1000) (fun r hr => (hok r hr).x i)
  have b2 := sumf_bound (f := fun r => r.x j) (l := l) (k := 1000) (fun r hr => (hok r hr).x j)
  have b3 := sumf_bound (f := fun r => r.x i * r.x i) (l := l) (k := 1000000) (fun r hr => mul_bd (U := 1000) (V := 1000) ((hok r hr).x i) ((hok r hr).x i))
  have b4 := sumf_bound (f := fun r => r.x i * r.x j) (l := l) (k := 1000000) (fun r hr => mul_bd (U := 1000) (V := 1000) ((hok r hr).x i) ((hok r hr).x j))
  exact bnd_of (by omega) (by omega) (by omega) (by omega) (by omega)

set_option maxHeartbeats 4000000 in
set_option maxRecDepth 100000 in
theorem line_any {base : Nat} {w : World} {mb b : Nat} {l : List Row} (i j : Nat) (h : Mdl base w mb b l) (hi : i < 3) (hj : j < 3) :
    Calls Tryz.prog 12 #[.pointer (some ⟨mb, 0, none⟩), .int .i64 (i : Nat), .int .i64 (j : Nat)] w fun e w' => LineRet i j l e ∧ Keep No w w' := by
  have H0 := Lib.hid (LSt.start w i j)
  have HSo := Lib.hid (sorted_any (h.new_ H0.out.kp))
  have HB := Lib.hid (bnd_rows i j h.len h.okay)
  have hD0 := disc_nonneg (fun r => r.x i) l
  unfold LineRet
  have HT := Lib.hid (fun (W4 W5 : World) (L : List (Row × Nat)) (hk : Keep No _ W4) (hk5 : Keep (fun b => b = w.heap.size + 1 + 1) W4 W5) (hs : SmAt W5 (w.heap.size + 1 + 1) i j L) (hp : (expand L).Perm l) => LSt.told H0.out hk hk5 hs hp)
  generalize (l.length : Int) * sumf (fun r => r.x i * r.x j) l - sumf (fun r => r.x i) l * sumf (fun r => r.x j) l = N at HB ⊢
  generalize sumf (fun r => r.x j) l * sumf (fun r => r.x i * r.x i) l - sumf (fun r => r.x i) l * sumf (fun r => r.x i * r.x j) l = M at HB ⊢
  generalize disc (fun r => r.x i) l = D at HB hD0 ⊢
  generalize sumf (fun r => r.x i) l = x at HB HT
  generalize sumf (fun r => r.x j) l = y at HB HT
  generalize sumf (fun r => r.x i * r.x i) l = xx at HB HT
  generalize sumf (fun r => r.x i * r.x j) l = xy at HB HT
  generalize hn : (l.length : Int) = n at HB HT
  clear hn
  have i0 : (0 : Int) ≤ (i : Int) := by omega
  have i1 : (i : Int) < 3 := by omega
  have j0 : (0 : Int) ≤ (j : Int) := by omega
  have j1 : (j : Int) < 3 := by omega
  have q1 : decide ((i : Int) < 0) = false := decide_eq_false (by omega)
  have q2 : decide ((3 : Int) ≤ (i : Int)) = false := decide_eq_false (by omega)
  have q3 : decide ((j : Int) < 0) = false := decide_eq_false (by omega)
  have q4 : decide ((3 : Int) ≤ (j : Int)) = false := decide_eq_false (by omega)
  have hlen := h.len
  clear h
  go_enter Tryz.func12, Tryz.ntmps12
  go_wp2_with (first
    | (go_at_call 33; refine HSo.out.mono ?_; rintro e w4 ⟨v, L, rfl, hC, _, hp, _, hok, hk4⟩; have HL := Lib.hid (show _ ∧ _ ∧ _ from ⟨hC, hp, hok⟩); have HK4 := Lib.hid hk4; clear hC hp hok hk4)
    | (go_at_call 32
       refine (tell_any (by_ := i) (of_ := j) HL.out.1 (LSt.sum0 H0.out HK4.out) hi hj (fun k hk e => by have := (HL.out.1.lt k hk).1; simp at this; omega) (by rw [HL.out.2.1.length_eq]; exact hlen) HL.out.2.2).mono ?_
       rintro e w5 ⟨rfl, hs5, hk5⟩
       have H5 := Lib.hid (HT.out _ _ _ HK4.out hk5 hs5 HL.out.2.1)
       clear hs5 hk5))
  clear H0 HSo HT HL HK4
  obtain ⟨m1, m2, m3, m4, m5, m6, m7, m8, m9, d1, d2, d3⟩ := HB.out
  clear HB
  have f0 := Blk.cell H5.out.sm 0
  have f2 := Blk.cell H5.out.sm 2
  have f3 := Blk.cell H5.out.sm 3
  have f4 := Blk.cell H5.out.sm 4
  have f5 := Blk.cell H5.out.sm 5
  have f6 := Blk.cell H5.out.sm 6
  simp only [List.getElem?_toArray, List.getElem?_cons_zero, List.getElem?_cons_succ] at f0 f2 f3 f4 f5 f6
  have e0 := H5.out.b1.cell 0
  have e1 := H5.out.b1.cell 1
  have e2 := H5.out.b2.cell 0
  have e3 := H5.out.b2.cell 1
  have z0 := H5.out.b1.frozen 0
  have z1 := H5.out.b1.frozen 1
  have z2 := H5.out.b2.frozen 0
  have z3 := H5.out.b2.frozen 1
  simp only [List.getElem?_toArray, List.getElem?_cons_zero, List.getElem?_cons_succ] at e0 e1 e2 e3
  have D3 := Lib.hid (show _ ∧ _ ∧ _ from ⟨d1, d2, d3⟩)
  clear d1 d2 d3
  go_quiet (fail)
  by_cases hD : D = 0
  · subst hD
    go_wp2_with fail
    have hb := (H5.out.lw.new_ ((Keep.refl No w5).drewN nq)).both (.int .i64 0) (.int .i64 0) (.int .i64 0) (.int .i64 0)
    have hk := ((H5.out.lw.new_ ((Keep.refl No w5).drewN nq)).set1 (.int .i64 0) (.int .i64 0)).set2 (.int .i64 0) (.int .i64 0)
    exact bodyPost_ret (results_cells rfl _ _ w.heap.size (w.heap.size + 1) 46 #[.int .i64 0, .int .i64 0] #[.int .i64 0, .int .i64 0] (0, 0) _ rfl rfl hb.1 hb.2 Tryz.underlying46 rfl info_size_frac info_size_frac) rfl ⟨by first | rfl | exact .inl ⟨rfl, rfl⟩ | simp [fracV], hk.kp⟩
  · have hDp : 0 < D := by omega
    have HL1 := Lib.hid (fun W => lowest_any (num := N) (den := D) W D3.out.2.1 D3.out.1 hDp)
    have HL2 := Lib.hid (fun W => lowest_any (num := M) (den := D) W D3.out.2.2 D3.out.1 hDp)
    have H6 := Lib.hid (H5.out.lw.new_ ((Keep.refl No w5).drewN nq))
    clear H5 e0 e1 e2 e3 z0 z1 z2 z3 f0 D3
    unfold fracV at HL1 HL2
    go_wp2_with fail
    generalize w5.drewN nq = w6 at *
    go_region_held3 (fun W => W.cell? ⟨w.heap.size + 1 + 1, 2, none⟩ = some (.int .i64 n) ∧ W.cell? ⟨w.heap.size + 1 + 1, 3, none⟩ = some (.int .i64 x) ∧ W.cell? ⟨w.heap.size + 1 + 1, 4, none⟩ = some (.int .i64 y) ∧
        W.cell? ⟨w.heap.size + 1 + 1, 5, none⟩ = some (.int .i64 xx) ∧ W.cell? ⟨w.heap.size + 1 + 1, 6, none⟩ = some (.int .i64 xy) ∧
  W.cell? ⟨w.heap.size, 0, none⟩ = some (cellOf W ⟨w.heap.size, 0, none⟩) ∧ W.cell? ⟨w.heap.size, 1, none⟩ = some (cellOf W ⟨w.heap.size, 1, none⟩) ∧
  W.cell? ⟨w.heap.size + 1, 0, none⟩ = some (cellOf W ⟨w.heap.size + 1, 0, none⟩) ∧ W.cell? ⟨w.heap.size + 1, 1, none⟩ = some (cellOf W ⟨w.heap.size + 1, 1, none⟩) ∧
  W.frozen? ⟨w.heap.size, 0, none⟩ = false ∧ W.frozen? ⟨w.heap.size, 1, none⟩ = false ∧ W.frozen? ⟨w.heap.size + 1, 0, none⟩ = false ∧ W.frozen? ⟨w.heap.size + 1, 1, none⟩ = false ∧ LW w W i j n x y xx xy)
      (first
        | with_reducible exact (LW.new_ H6.out ((Keep.refl No w6).drew)).s
        | with_reducible exact HS8.out.s
        | ((try go_split_ands); have hlw : LW w _ i j n x y xx xy := (by with_reducible assumption); with_reducible exact (hlw.new_ KK.out).s)
        | ((try go_split_ands); have hlw : LW w _ i j n x y xx xy := (by with_reducible assumption); with_reducible exact (hlw.set1 _ _).s)
        | ((try go_split_ands); have hlw : LW w _ i j n x y xx xy := (by with_reducible assumption); with_reducible exact (hlw.set2 _ _).s))
      (first
        | (go_at_call 34; with_reducible refine Calls.mono (HL1.out _) ?_; rintro e w' ⟨p, q, rfl, hlow, hk⟩; have P1 := Lib.hid hlow; have KK := Lib.hid hk; clear hlow hk)
        | (go_at_call 34; with_reducible refine Calls.mono (HL2.out _) ?_; rintro e w' ⟨p', q', rfl, hlow, hk⟩; have P2 := Lib.hid hlow; have KK := Lib.hid hk; (try go_split_ands); have hlw0 : LW w _ i j n x y xx xy := (by with_reducible assumption); have HS8 := Lib.hid (hlw0.new_ hk); clear hlow hk hlw0)
        | fail)
    all_goals
      have hb := HS8.out.both (.int .i64 p) (.int .i64 q) (.int .i64 p') (.int .i64 q')
      have hk := ((HS8.out.set1 (.int .i64 p) (.int .i64 q)).set2 (.int .i64 p') (.int .i64 q')).kp
      have HBK := Lib.hid (show _ ∧ _ from ⟨hb, hk⟩)
      clear hb hk HS8
      go_wp2
      refine bodyPost_ret (results_cells rfl _ _ w.heap.size (w.heap.size + 1) 46 #[.int .i64 p, .int .i64 q] #[.int .i64 p', .int .i64 q'] (0, 0) _ rfl rfl HBK.out.1.1 HBK.out.1.2 Tryz.underlying46 rfl info_size_frac info_size_frac) rfl ⟨?_, HBK.out.2⟩
      first
        | exact .inr ⟨hDp, p, q, p', q', rfl, P1.out, P2.out⟩
        | exact ⟨hDp, p, q, p', q', rfl, P1.out, P2.out⟩
        | exact ⟨p, q, p', q', rfl, P1.out, P2.out⟩
        | (simp [fracV]; exact ⟨P1.out, P2.out⟩)
end Go.Proofs.YtgabidgpngiecaaGreat
