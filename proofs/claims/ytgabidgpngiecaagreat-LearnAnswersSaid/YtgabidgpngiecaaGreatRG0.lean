/- The reference's worth and Guess. Conditions: each names its own. -/
import Derived.Test.YtgabidgpngiecaaGreatRT0
import Derived.Test.YtgabidgpngiecaaGreatRL0
import Derived.StillTailTactics
namespace Go.Proofs.YtgabidgpngiecaaGreat
open Go.RowKit Go.Proofs.YtgabidgpngiecaaGreatKit Go.Proofs.YtgabidgpngiecaaGreatPlain

/-! ### Plain -/
theorem lkC_push (x : Row) (T : List Row) (r : Row) (q lab : Nat) : lkC x (T ++ [r]) q lab = lkC x T q lab + if r.l = (lab : Nat) ∧ (q = 0 ∨ r.x (q - 1) = x.x (q - 1)) then 1 else 0 := by
  unfold lkC
  have h := fL_add x T r 1 q
  rw [show List.replicate 1 r = [r] from rfl] at h
  rw [← h]
  unfold cntL selL
  rw [List.countP_append]
  congr 1
  by_cases h1 : q = 0 ∨ r.x (q - 1) = x.x (q - 1)
  · rw [if_pos h1]
    by_cases h2 : r.l = (lab : Nat)
    · rw [if_pos ⟨h2, h1⟩]; simp [h2]
    · rw [if_neg (fun h => h2 h.1)]; simp [h2]
  · rw [if_neg h1, if_neg (fun h => h1 h.2)]; rfl
theorem lkC_nil (x : Row) (q lab : Nat) : lkC x [] q lab = 0 := by
  unfold lkC fL cntL
  split <;> simp
/-- Three numbers, one of them raised. -/
def upAt (f : Nat → Nat) (c : Nat) : Nat → Nat := fun q => if q = c then f q + 1 else f q
def e3 (f : Nat → Nat) : Array Value := #[.int .i64 (f 0 : Nat), .int .i64 (f 1 : Nat), .int .i64 (f 2 : Nat)]
theorem e3_get (f : Nat → Nat) {c : Nat} (hc : c < 3) : (e3 f)[c]? = some (.int .i64 (f c : Nat)) := by
  rcases (show c = 0 ∨ c = 1 ∨ c = 2 by omega) with rfl | rfl | rfl <;> rfl
theorem e3_set (f : Nat → Nat) {c : Nat} (hc : c < 3) : (e3 f).setIfInBounds c (.int .i64 ((f c : Nat) + 1)) = e3 (upAt f c) := by
  rcases (show c = 0 ∨ c = 1 ∨ c = 2 by omega) with rfl | rfl | rfl <;> simp [e3, upAt]
theorem e3_congr {f f' : Nat → Nat} (h : ∀ q, q < 3 → f q = f' q) : e3 f = e3 f' := by
  unfold e3
  rw [h 0 (by omega), h 1 (by omega), h 2 (by omega)]
/-- What worth holds. -/
structure WoS (B : Nat) (w W : World) (v : Value) (l : List Row) (x : Row) (f : Nat → Nat) : Prop where
  ro : RIn B W v l
  bs : B ≤ w.heap.size
  bx : Blk W w.heap.size 28 #[.int .i64 x.a, .int .i64 x.b, .int .i64 x.c]
  re : Blk W (w.heap.size + 1) 110 #[.int .i64 0, .int .i64 0]
  eb : Blk W (w.heap.size + 1 + 1) 132 (e3 f)
  kp : Keep No w W
section
variable {B : Nat} {w W W' : World} {v : Value} {l : List Row} {x : Row} {f f' : Nat → Nat}
theorem WoS.new_ (h : WoS B w W v l x f) (hk : Keep No W W') : WoS B w W' v l x f := ⟨h.ro.new_ hk, h.bs, h.bx.keep hk (fun y => y), h.re.keep hk (fun y => y), h.eb.keep hk (fun y => y), h.kp.trans hk (fun _ y => y.elim)⟩
theorem WoS.congr (h : WoS B w W v l x f) (he : ∀ q, q < 3 → f q = f' q) : WoS B w W v l x f' := ⟨h.ro, h.bs, h.bx, h.re, e3_congr he ▸ h.eb, h.kp⟩
theorem WoS.up (h : WoS B w W v l x f) {c : Nat} (hc : c < 3) : WoS B w (W.setCell ⟨w.heap.size + 1 + 1, c, none⟩ (.int .i64 ((f c : Nat) + 1))) v l x (upAt f c) := by
  have hk : Keep (fun b => b = w.heap.size + 1 + 1) W (W.setCell ⟨w.heap.size + 1 + 1, c, none⟩ (.int .i64 ((f c : Nat) + 1))) := (Keep.refl (fun b => b = w.heap.size + 1 + 1) W).setCell (p := ⟨w.heap.size + 1 + 1, c, none⟩) (.inl rfl) _
  refine ⟨h.ro.off hk (fun k e => ⟨by have := h.bs; omega, by subst e; exact ⟨_, _, _, h.eb, by decide⟩⟩), h.bs, h.bx.keep hk (by omega), h.re.keep hk (by omega), ?_, h.kp.trans hk (fun k e => .inr (by omega))⟩
  rw [← e3_set f hc]
  exact h.eb.set_ c _
theorem WoS.start (h : RIn B w v l) (hB : B ≤ w.heap.size) (x : Row) : WoS B w (((w.alloc (.cells #[.int .i64 x.a, .int .i64 x.b, .int .i64 x.c] 28)).alloc (.cells #[.int .i64 0, .int .i64 0] 110)).alloc (.cells #[.int .i64 0, .int .i64 0, .int .i64 0] 132)) v l x (fun _ => 0) := by
  have e1 : (w.alloc (.cells #[.int .i64 x.a, .int .i64 x.b, .int .i64 x.c] 28)).heap.size = w.heap.size + 1 := by simp
  have e2 : ((w.alloc (.cells #[.int .i64 x.a, .int .i64 x.b, .int .i64 x.c] 28)).alloc (.cells #[.int .i64 0, .int .i64 0] 110)).heap.size = w.heap.size + 1 + 1 := by simp
  have k := ((((Keep.refl No w).alloc (.cells #[.int .i64 x.a, .int .i64 x.b, .int .i64 x.c] 28)).alloc (.cells #[.int .i64 0, .int .i64 0] 110)).alloc (.cells #[.int .i64 0, .int .i64 0, .int .i64 0] 132))
  have b1 := Blk.new (w.alloc (.cells #[.int .i64 x.a, .int .i64 x.b, .int .i64 x.c] 28)) 110 #[.int .i64 0, .int .i64 0]
  have b2 := Blk.new ((w.alloc (.cells #[.int .i64 x.a, .int .i64 x.b, .int .i64 x.c] 28)).alloc (.cells #[.int .i64 0, .int .i64 0] 110)) 132 #[.int .i64 0, .int .i64 0, .int .i64 0]
  rw [e1] at b1
  rw [e2] at b2
  exact ⟨h.new_ k, hB, ((Blk.new w _ _).alloc _).alloc _, b1.alloc _, b2, k⟩
end
theorem pt_cell {W : World} {g : Nat} {x : Row} (h : Blk W g 28 #[.int .i64 x.a, .int .i64 x.b, .int .i64 x.c]) {c : Nat} (hc : c < 3) : W.cell? ⟨g, c, none⟩ = some (.int .i64 (x.x c)) := by
  rcases (show c = 0 ∨ c = 1 ∨ c = 2 by omega) with rfl | rfl | rfl
  · exact h.cell 0
  · exact h.cell 1
  · exact h.cell 2
/-- Columns up to one are raised. -/
def midW (new old : Nat → Nat) (c : Nat) : Nat → Nat := fun q => if q < c then new q else old q
theorem midW_up {new old : Nat → Nat} {c : Nat} (h : new c = old c + 1) : ∀ q, q < 3 → upAt (midW new old c) c q = midW new old (c + 1) q := fun q _ => by
  unfold upAt midW
  by_cases h1 : q = c
  · subst h1
    rw [if_pos rfl, if_neg (Nat.lt_irrefl _), if_pos (by omega), h]
  · rw [if_neg h1]
    by_cases h2 : q < c
    · rw [if_pos h2, if_pos (by omega)]
    · rw [if_neg h2, if_neg (by omega)]
theorem midW_no {new old : Nat → Nat} {c : Nat} (h : new c = old c) : ∀ q, q < 3 → midW new old c q = midW new old (c + 1) q := fun q _ => by
  unfold midW
  by_cases h1 : q = c
  · subst h1
    rw [if_neg (Nat.lt_irrefl _), if_pos (by omega), h]
  · by_cases h2 : q < c
    · rw [if_pos h2, if_pos (by omega)]
    · rw [if_neg h2, if_neg (by omega)]
/-- The product so far, in block g. -/
structure WoM (B : Nat) (w W : World) (v : Value) (l : List Row) (x : Row) (f : Nat → Nat) (g : Nat) (a b : Int) : Prop where
  wo : WoS B w W v l x f
  mb : Blk W g 110 #[.int .i64 a, .int .i64 b]
  ge : w.heap.size + 1 + 1 < g
section
variable {B : Nat} {w W W' : World} {v : Value} {l : List Row} {x : Row} {f : Nat → Nat} {g : Nat} {a b : Int}
theorem WoM.new_ (h : WoM B w W v l x f g a b) (hk : Keep No W W') : WoM B w W' v l x f g a b := ⟨h.wo.new_ hk, h.mb.keep hk (fun y => y), h.ge⟩
theorem WoM.start (h : WoS B w W v l x f) (a b : Int) : WoM B w (W.alloc (.cells #[.int .i64 a, .int .i64 b] 110)) v l x f W.heap.size a b := ⟨h.new_ ((Keep.refl No W).alloc _), Blk.new W _ _, by have := h.eb.lt; omega⟩
theorem WoM.put (h : WoM B w W v l x f g a b) (i : Nat) (u : Value) {a' b' : Int} (hb : Blk (W.setCell ⟨g, i, none⟩ u) g 110 #[.int .i64 a', .int .i64 b']) : WoM B w (W.setCell ⟨g, i, none⟩ u) v l x f g a' b' := by
  have hk : Keep (fun b => b = g) W (W.setCell ⟨g, i, none⟩ u) := (Keep.refl (fun b => b = g) W).setCell (p := ⟨g, i, none⟩) (.inl rfl) _
  have hg := h.ge
  exact ⟨⟨h.wo.ro.off hk (fun k e => ⟨by have := h.wo.bs; omega, by subst e; exact ⟨_, _, _, h.mb, by decide⟩⟩), h.wo.bs, h.wo.bx.keep hk (by omega), h.wo.re.keep hk (by omega), h.wo.eb.keep hk (by omega), h.wo.kp.trans hk (fun k e => .inr (by omega))⟩, hb, hg⟩
end
theorem info_size_measure : (Tryz.prog.info? 110).map (·.size) = some 2 := by kernel_rfl
set_option maxHeartbeats 1000000 in
set_option maxRecDepth 100000 in
theorem rworth_any {B : Nat} {w : World} {v : Value} {l : List Row} (x : Row) (lab : Nat) (h : RIn B w v l) (hB : B ≤ w.heap.size) (hl : l.length ≤ 500) :
    Calls Tryz.prog 53 #[v, .int .i64 (lab : Nat), ptV x] w fun e w' => e = .returned (.agg #[.int .i64 (pA (lkC x l) lab 3), .int .i64 (pB (lkC x l) lab 3)]) ∧ Keep No w w' := by
  obtain ⟨A, c, rfl, hc, _⟩ := id h
  have H0 := Lib.hid (WoS.start h hB x)
  clear h
  unfold ptV
  go_enter Tryz.func53, Tryz.ntmps53
  go_wp2_with fail
  generalize ((w.alloc (.cells #[.int .i64 x.a, .int .i64 x.b, .int .i64 x.c] 28)).alloc (.cells #[.int .i64 0, .int .i64 0] 110)).alloc (.cells #[.int .i64 0, .int .i64 0, .int .i64 0] 132) = w1 at *
  go_loopg [7, 9] l.length (fun kx s7 s9 wr => ∃ k n : Nat, s9 = .int .i64 k ∧ k ≤ l.length ∧ l.length ≤ k + kx ∧ s7 = .int .i64 n ∧ n ≤ k ∧ Hid (n = lkC x (l.take k) 0 lab) ∧ Hid (WoS B w wr (.slice A l.length c) l x (fun q => lkC x (l.take k) (q + 1) lab)))
  case atStart => exact ⟨0, 0, rfl, Nat.zero_le _, by omega, rfl, Nat.le_refl _, Lib.hid (lkC_nil x 0 lab).symm, Lib.hid (H0.out.congr (fun q _ => (lkC_nil x (q + 1) lab).symm))⟩
  case round =>
    clear H0
    obtain ⟨k, n, rfl, hk, hkx, rfl, hnk, HN, HS⟩ := hrel
    have j0 : (0 : Int) ≤ (k : Int) := by omega
    by_cases hlt : k < l.length
    · have j1 : (k : Int) < (l.length : Int) := by omega
      have hgd : decide ((k : Int) < (l.length : Int)) = true := decide_eq_true j1
      have hk5 : k < 500 := by omega
      obtain ⟨A0, c0, eA, _, hR⟩ := HS.out.ro
      injection eA with eA en ec
      clear en
      subst eA
      subst ec
      obtain ⟨ad, hA, _, _, _, _, eL⟩ := hR.at_ hlt
      have htk : l.take k ++ [l[k]] = l.take (k + 1) := List.take_append_getElem hlt
      have HTK := Lib.hid htk
      have HA := Lib.hid hA
      subst hA
      clear hR htk
      by_cases hlab : l[k].l = (lab : Nat)
      · have hne : (l[k].l != (lab : Int)) = false := by simp [hlab]
        have HP := Lib.hid (show ∀ q, lkC x (l.take (k + 1)) q lab = lkC x (l.take k) q lab + if q = 0 ∨ l[k].x (q - 1) = x.x (q - 1) then 1 else 0 from fun q => by
          rw [← HTK.out, lkC_push]
          by_cases hq : q = 0 ∨ l[k].x (q - 1) = x.x (q - 1)
          · rw [if_pos ⟨hlab, hq⟩, if_pos hq]
          · rw [if_neg (fun h => hq h.2), if_neg hq])
        have HS0 := Lib.hid (show WoS B w wr (.slice (some ad) l.length c) l x (midW (fun q => lkC x (l.take (k + 1)) (q + 1) lab) (fun q => lkC x (l.take k) (q + 1) lab) 0) from HS.out.congr (fun q _ => by unfold midW; rw [if_neg (by omega)]))
        clear hlab HS
        go_wp2_with fail
        clear hne eL
        go_loopg [10] 3 (fun ky s10 wr => ∃ j : Nat, s10 = .int .i64 j ∧ j ≤ 3 ∧ 3 ≤ j + ky ∧ Hid (WoS B w wr (.slice (some ad) l.length c) l x (midW (fun q => lkC x (l.take (k + 1)) (q + 1) lab) (fun q => lkC x (l.take k) (q + 1) lab) j)))
        case atStart => exact ⟨0, rfl, by omega, by omega, HS0⟩
        case round =>
          clear HS0
          obtain ⟨j, rfl, hj, hjy, HS⟩ := hrel
          have i0 : (0 : Int) ≤ (j : Int) := by omega
          by_cases hj3 : j < 3
          · have i1 : (j : Int) < 3 := by omega
            have hgd3 : decide ((j : Int) < 3) = true := decide_eq_true i1
            obtain ⟨A0, c0, eA, _, hR⟩ := HS.out.ro
            injection eA with eA en ec
            clear en
            subst eA
            subst ec
            obtain ⟨ad', hA', ej⟩ := RowsIn.x hR hlt hj3
            injection hA' with hA'
            subst hA'
            have ex := pt_cell HS.out.bx hj3
            have hnew := HP.out (j + 1)
            rw [show j + 1 - 1 = j from rfl] at hnew
            clear hR
            by_cases he : l[k].x j = x.x j
            · have heq : (l[k].x j == x.x j) = true := beq_iff_eq.2 he
              rw [if_pos (.inr he)] at hnew
              have ee := HS.out.eb.cell j
              rw [e3_get _ hj3] at ee
              have ez := HS.out.eb.frozen j
              have hmid : midW (fun q => lkC x (l.take (k + 1)) (q + 1) lab) (fun q => lkC x (l.take k) (q + 1) lab) j j = lkC x (l.take k) (j + 1) lab := by unfold midW; rw [if_neg (Nat.lt_irrefl _)]
              have HU := Lib.hid (show ∀ W, Keep No wr W → WoS B w (W.setCell ⟨w.heap.size + 1 + 1, j, none⟩ (.int .i64 ((lkC x (l.take k) (j + 1) lab : Nat) + 1))) (.slice (some ad) l.length c) l x (midW (fun q => lkC x (l.take (k + 1)) (q + 1) lab) (fun q => lkC x (l.take k) (q + 1) lab) (j + 1)) from fun W hW => by
                have h := ((HS.out.new_ hW).up hj3).congr (midW_up hnew)
                rw [hmid] at h
                exact h)
              rw [hmid] at ee
              have hle : lkC x (l.take k) (j + 1) lab ≤ 500 := lkC_le (Nat.le_trans (by rw [List.length_take]; omega) hl) _ _
              have HKQ := Lib.hid hnew
              clear he hnew hmid
              generalize lkC x (l.take k) (j + 1) lab = m0 at ee HU hle
              generalize l[k].x j = lx at *
              generalize x.x j = px at *
              go_wp2_with fail
              go_quiet (fail)
              clear heq ej ex
              go_wp2_with fail
              go_roundg (3 - (j + 1))
              case measure => omega
              case rel => exact ⟨j + 1, by go_num, by omega, by omega, Lib.hid (HU.out _ ((Keep.refl No _).drewN _))⟩
            · have heq : (l[k].x j == x.x j) = false := beq_eq_false_iff_ne.2 he
              rw [if_neg (fun h => h.elim (by omega) he)] at hnew
              have HU := Lib.hid (HS.out.congr (midW_no hnew))
              clear he hnew
              generalize l[k].x j = lx at *
              generalize x.x j = px at *
              go_wp2_with fail
              go_quiet (fail)
              go_wp2_with fail
              go_roundg (3 - (j + 1))
              case measure => omega
              case rel => exact ⟨j + 1, by go_num, by omega, by omega, Lib.hid (HU.out.new_ ((Keep.refl No _).drewN _))⟩
          · obtain rfl : j = 3 := by omega
            have HSE := Lib.hid (show WoS B w wr (.slice (some ad) l.length c) l x (fun q => lkC x (l.take (k + 1)) (q + 1) lab) from HS.out.congr (fun q hq => by unfold midW; rw [if_pos hq]))
            have HN1 := Lib.hid (show n + 1 = lkC x (l.take (k + 1)) 0 lab from by rw [HP.out, ← HN.out, if_pos (.inl rfl)])
            clear HS
            go_wp2_with fail
            go_roundg (l.length - (k + 1))
            case measure => omega
            case rel => exact ⟨k + 1, n + 1, by go_num, by omega, by omega, by go_num, by omega, HN1, HSE⟩
      · have hne : (l[k].l != (lab : Int)) = true := by simp [hlab]
        have HP := Lib.hid (show ∀ q, lkC x (l.take (k + 1)) q lab = lkC x (l.take k) q lab from fun q => by rw [← HTK.out, lkC_push, if_neg (fun h => hlab h.1)]; rfl)
        clear hlab
        generalize l[k].l = ll at *
        go_wp2_with fail
        go_roundg (l.length - (k + 1))
        case measure => omega
        case rel => exact ⟨k + 1, n, by go_num, by omega, by omega, rfl, by omega, Lib.hid (by rw [HP.out]; exact HN.out), Lib.hid (HS.out.congr (fun q _ => (HP.out (q + 1)).symm))⟩
    · obtain rfl : k = l.length := by omega
      have hgd : decide ((l.length : Int) < (l.length : Int)) = false := decide_eq_false (by omega)
      have hn := HN.out
      have hs := HS.out
      rw [List.take_length] at hn hs
      have hcc : ∀ q i, lkC x l q i ≤ 500 := fun q i => lkC_le hl q i
      obtain ⟨cf, hcf⟩ : ∃ cf, cf = lkC x l := ⟨_, rfl⟩
      rw [← hcf] at hn hs hcc
      have HCF := Lib.hid hcf
      clear hcf
      have HCC := Lib.hid hcc
      have HS2 := Lib.hid hs
      have hn5 : n ≤ 500 := by omega
      have HN2 := Lib.hid hn
      clear hn hs HN HS hcc hk hkx hlt
      go_wp2_with fail
      have HM0 := Lib.hid (show WoM B w (wr.alloc (.cells #[.int .i64 (n : Nat), .int .i64 1] 110)) (.slice A l.length c) l x (fun q => cf (q + 1) lab) wr.heap.size (pA cf lab 0) (pB cf lab 0) from by
        have h := WoM.start HS2.out ((n : Nat) : Int) 1
        rw [show pA cf lab 0 = ((n : Nat) : Int) from by rw [HN2.out]; rfl, show pB cf lab 0 = 1 from rfl]
        exact h)
      clear HS2
      generalize wr.alloc (.cells #[.int .i64 (n : Nat), .int .i64 1] 110) = w2 at *
      generalize wr.heap.size = g at *
      go_loopg [12] 3 (fun ky s12 wr => ∃ j : Nat, s12 = .int .i64 j ∧ j ≤ 3 ∧ 3 ≤ j + ky ∧ Hid (WoM B w wr (.slice A l.length c) l x (fun q => cf (q + 1) lab) g (pA cf lab j) (pB cf lab j)))
      case atStart => exact ⟨0, rfl, by omega, by omega, HM0⟩
      case round =>
        clear HM0
        obtain ⟨j, rfl, hj, hjy, HM⟩ := hrel
        have i0 : (0 : Int) ≤ (j : Int) := by omega
        by_cases hj3 : j < 3
        · have i1 : (j : Int) < 3 := by omega
          have hgd3 : decide ((j : Int) < 3) = true := decide_eq_true i1
          have hgd3' : decide (j < 3) = true := decide_eq_true hj3
          obtain ⟨w1', w2', w3', w4'⟩ := part_fit HCC.out lab hj3
          rw [← HN2.out] at w3' w4'
          have HPA := Lib.hid (show pA cf lab (j + 1) = pA cf lab j * ((cf (j + 1) lab : Nat) + 1) from rfl)
          have HPB := Lib.hid (show pB cf lab (j + 1) = pB cf lab j * ((n : Nat) + 2) from by rw [HN2.out]; rfl)
          have m0 := HM.out.mb.cell 0
          have m1 := HM.out.mb.cell 1
          have z0 := HM.out.mb.frozen 0
          have ee := HM.out.wo.eb.cell j
          rw [e3_get _ hj3] at ee
          simp only [List.getElem?_toArray, List.getElem?_cons_zero, List.getElem?_cons_succ] at m0 m1
          obtain ⟨pa, hpa⟩ : ∃ pa, pa = pA cf lab j := ⟨_, rfl⟩
          obtain ⟨pb, hpb⟩ : ∃ pb, pb = pB cf lab j := ⟨_, rfl⟩
          obtain ⟨cj, hcj⟩ : ∃ cj, cj = cf (j + 1) lab := ⟨_, rfl⟩
          rw [← hpa] at m0 w2' HM HPA
          rw [← hpb] at m1 w4' HM HPB
          rw [← hcj] at w1' w2' ee HPA
          clear hpa hpb hcj
          go_wp2_with fail
          go_still_tail 8, (by kernel_rfl)
          go_upto_region 18 with fail
          have HM1 := Lib.hid ((HM.out.put 0 (.int .i64 (pa * ((cj : Nat) + 1))) (a' := pa * ((cj : Nat) + 1)) (b' := pb) (HM.out.mb.set_ 0 _)).new_ ((Keep.refl No _).drew))
          clear m0 m1 z0 ee w1' w2' HM
          generalize (wr.setCell ⟨g, 0, none⟩ (.int .i64 (pa * ((cj : Nat) + 1)))).drew = w4 at *
          have m1 := HM1.out.mb.cell 1
          have z1 := HM1.out.mb.frozen 1
          simp only [List.getElem?_toArray, List.getElem?_cons_zero, List.getElem?_cons_succ] at m1
          go_wp2_with fail
          have HM2 : Hid (WoM B w (w4.setCell ⟨g, 1, none⟩ (.int .i64 (pb * ((n : Nat) + 2)))) (.slice A l.length c) l x (fun q => cf (q + 1) lab) g (pA cf lab (j + 1)) (pB cf lab (j + 1))) := Lib.hid (by
            rw [HPA.out, HPB.out]
            exact HM1.out.put 1 (.int .i64 (pb * ((n : Nat) + 2))) (HM1.out.mb.set_ 1 _))
          clear m1 z1 HM1 w3' w4'
          go_roundg (3 - (j + 1))
          case measure => omega
          case rel => exact ⟨j + 1, by go_num, by omega, by omega, HM2⟩
        · obtain rfl : j = 3 := by omega
          have hgd3 : decide ((3 : Int) < 3) = false := rfl
          have m0 := HM.out.mb.cell 0
          have m1 := HM.out.mb.cell 1
          have r0 := HM.out.wo.re.cell 0
          have r1 := HM.out.wo.re.cell 1
          have z0 := HM.out.wo.re.frozen 0
          have z1 := HM.out.wo.re.frozen 1
          simp only [List.getElem?_toArray, List.getElem?_cons_zero, List.getElem?_cons_succ] at m0 m1 r0 r1
          obtain ⟨pa, hpa⟩ : ∃ pa, pa = pA cf lab 3 := ⟨_, rfl⟩
          obtain ⟨pb, hpb⟩ : ∃ pb, pb = pB cf lab 3 := ⟨_, rfl⟩
          rw [← hpa] at m0
          rw [← hpb] at m1
          have HPP := Lib.hid (show (Value.agg #[.int .i64 pa, .int .i64 pb]) = .agg #[.int .i64 (pA (lkC x l) lab 3), .int .i64 (pB (lkC x l) lab 3)] from by rw [hpa, hpb, HCF.out])
          clear hpa hpb
          go_wp2_with fail
          exact bodyPost_ret (results_cell_row rfl _ _ (w.heap.size + 1) 110 #[.int .i64 pa, .int .i64 pb] (0, 0) _ rfl ((HM.out.wo.re.set_ 0 (.int .i64 pa)).set_ 1 (.int .i64 pb)) Tryz.underlying110 rfl info_size_measure) rfl
            ⟨by rw [← HPP.out], (HM.out.wo.kp.setCell (p := ⟨w.heap.size + 1, 0, none⟩) (.inr (by show w.heap.size ≤ w.heap.size + 1; omega)) _).setCell (p := ⟨w.heap.size + 1, 1, none⟩) (.inr (by show w.heap.size ≤ w.heap.size + 1; omega)) _⟩

set_option maxHeartbeats 400000 in
theorem rguess_none {w : World} {A : Option Addr} {c : Nat} (x : Row) (hx : okPt x) :
    Calls Tryz.prog 19 #[.slice A 0 c, ptV x] w fun e w' => e = .returned (.tuple #[.int .i64 0, .int .i64 3]) ∧ Keep No w w' := by
  have B0 := Blk.new w 28 #[.int .i64 x.a, .int .i64 x.b, .int .i64 x.c]
  have k0 := (Keep.refl No w).alloc (.cells #[.int .i64 x.a, .int .i64 x.b, .int .i64 x.c] 28)
  have f0 := B0.cell 0
  have f1 := B0.cell 1
  have f2 := B0.cell 2
  simp only [List.getElem?_toArray, List.getElem?_cons_zero, List.getElem?_cons_succ] at f0 f1 f2
  have HP := Lib.hid (fun W => point_any x.a x.b x.c W)
  have HK := Lib.hid (show _ ∧ _ from ⟨B0, k0⟩)
  clear B0 k0
  rw [decide_eq_true (show okX x.a ∧ okX x.b ∧ okX x.c from hx)] at HP
  clear hx
  unfold ptV
  go_enter Tryz.func19, Tryz.ntmps19
  go_wp2_with fail
  generalize w.alloc (.cells #[.int .i64 x.a, .int .i64 x.b, .int .i64 x.c] 28) = w1 at *
  refine (HP.out _).mono ?_
  rintro e w2 ⟨rfl, hk2⟩
  have HK2 := Lib.hid (HK.out.2.trans hk2 (fun _ y => y.elim))
  clear hk2 HP HK f0 f1 f2
  go_wp2_with fail
  go_ret2
  exact ⟨rfl, HK2.out⟩
set_option maxHeartbeats 400000 in
theorem rguess_bad {w : World} (v : Value) (x : Row) (h : ¬ okPt x) :
    Calls Tryz.prog 19 #[v, ptV x] w fun e w' => e = .returned (.tuple #[.int .i64 0, .int .i64 1]) ∧ Keep No w w' := by
  have B0 := Blk.new w 28 #[.int .i64 x.a, .int .i64 x.b, .int .i64 x.c]
  have k0 := (Keep.refl No w).alloc (.cells #[.int .i64 x.a, .int .i64 x.b, .int .i64 x.c] 28)
  have f0 := B0.cell 0
  have f1 := B0.cell 1
  have f2 := B0.cell 2
  simp only [List.getElem?_toArray, List.getElem?_cons_zero, List.getElem?_cons_succ] at f0 f1 f2
  have HP := Lib.hid (fun W => point_any x.a x.b x.c W)
  have HK := Lib.hid (show _ ∧ _ from ⟨B0, k0⟩)
  clear B0 k0
  rw [decide_eq_false (show ¬ (okX x.a ∧ okX x.b ∧ okX x.c) from h)] at HP
  clear h
  unfold ptV
  go_enter Tryz.func19, Tryz.ntmps19
  go_wp2_with fail
  generalize w.alloc (.cells #[.int .i64 x.a, .int .i64 x.b, .int .i64 x.c] 28) = w1 at *
  refine (HP.out _).mono ?_
  rintro e w2 ⟨rfl, hk2⟩
  have HK2 := Lib.hid (HK.out.2.trans hk2 (fun _ y => y.elim))
  clear hk2 HP HK f0 f1 f2
  go_wp2_with fail
  go_ret2
  exact ⟨rfl, HK2.out⟩
/-- What Guess holds. -/
structure GuR (B : Nat) (w W : World) (v : Value) (l : List Row) (x : Row) (gc gm : Nat) (c0 : Nat → Nat) (num den : Int) : Prop where
  ro : RIn B W v l
  bs : B ≤ w.heap.size
  bx : Blk W w.heap.size 28 #[.int .i64 x.a, .int .i64 x.b, .int .i64 x.c]
  ct : ∀ k, k < 8 → W.cell? ⟨gc, k, none⟩ = some (.int .i64 (c0 k : Nat))
  mb : Blk W gm 110 #[.int .i64 num, .int .i64 den]
  ne : gc ≠ gm ∧ w.heap.size < gm ∧ gc < W.heap.size
  kp : Keep No w W
section
variable {B : Nat} {w W W' : World} {v : Value} {l : List Row} {x : Row} {gc gm : Nat} {c0 : Nat → Nat} {num den : Int}
theorem GuR.new_ (h : GuR B w W v l x gc gm c0 num den) (hk : Keep No W W') : GuR B w W' v l x gc gm c0 num den :=
  ⟨h.ro.new_ hk, h.bs, h.bx.keep hk (fun y => y), fun k h8 => (hk.cell (p := ⟨gc, k, none⟩) h.ne.2.2 (fun y => y)).trans (h.ct k h8), h.mb.keep hk (fun y => y), ⟨h.ne.1, h.ne.2.1, Nat.lt_of_lt_of_le h.ne.2.2 hk.size⟩, h.kp.trans hk (fun _ y => y.elim)⟩
theorem GuR.put (h : GuR B w W v l x gc gm c0 num den) (a b : Int) (hk : Keep (fun k => k = gm) W W') (hb : Blk W' gm 110 #[.int .i64 a, .int .i64 b]) : GuR B w W' v l x gc gm c0 a b :=
  ⟨h.ro.off hk (fun k e => ⟨by have := h.bs; have := h.ne.2.1; omega, by subst e; exact ⟨_, _, _, h.mb, by decide⟩⟩), h.bs, h.bx.keep hk (by have := h.ne.2.1; omega), fun k h8 => (hk.cell (p := ⟨gc, k, none⟩) h.ne.2.2 h.ne.1).trans (h.ct k h8), hb, ⟨h.ne.1, h.ne.2.1, Nat.lt_of_lt_of_le h.ne.2.2 hk.size⟩, h.kp.trans hk (fun k e => .inr (by have := h.ne.2.1; omega))⟩
end
set_option maxHeartbeats 1000000 in
set_option maxRecDepth 100000 in
theorem rguess_good {B : Nat} {w : World} {v : Value} {l : List Row} (x : Row) (h : RIn B w v l) (hB : B ≤ w.heap.size) (hok : ∀ r ∈ l, okRow r) (hl : l.length ≤ 500) (hx : okPt x) (h0 : 0 < l.length) :
    Calls Tryz.prog 19 #[v, ptV x] w fun e w' => e = .returned (.tuple #[.int .i64 (gTo (lkC x l) 8).best, .int .i64 0]) ∧ Keep No w w' := by
  have B0 := Blk.new w 28 #[.int .i64 x.a, .int .i64 x.b, .int .i64 x.c]
  have k0 := (Keep.refl No w).alloc (.cells #[.int .i64 x.a, .int .i64 x.b, .int .i64 x.c] 28)
  have f0 := B0.cell 0
  have f1 := B0.cell 1
  have f2 := B0.cell 2
  simp only [List.getElem?_toArray, List.getElem?_cons_zero, List.getElem?_cons_succ] at f0 f1 f2
  have HP := Lib.hid (fun W => point_any x.a x.b x.c W)
  have HK := Lib.hid (show _ ∧ _ from ⟨B0, k0⟩)
  clear B0 k0
  rw [decide_eq_true (show okX x.a ∧ okX x.b ∧ okX x.c from hx)] at HP
  have HR := Lib.hid (show _ ∧ _ ∧ _ ∧ _ from ⟨h, hB, hok, hl⟩)
  obtain ⟨A, c, rfl, hc, _⟩ := h
  have hlen : (l.length == 0) = false := beq_eq_false_iff_ne.2 (by omega)
  have hlen' : ((l.length : Int) == 0) = false := beq_eq_false_iff_ne.2 (by omega)
  clear hx hok hB
  unfold ptV
  go_enter Tryz.func19, Tryz.ntmps19
  go_wp2_with fail
  generalize w.alloc (.cells #[.int .i64 x.a, .int .i64 x.b, .int .i64 x.c] 28) = w1 at *
  refine (HP.out _).mono ?_
  rintro e w2 ⟨rfl, hk2⟩
  have HK2 := Lib.hid (HK.out.2.trans hk2 (fun _ y => y.elim))
  have HB2 := Lib.hid (HK.out.1.keep hk2 (fun y => y))
  clear hk2 HP HK f0 f1 f2
  have HC := Lib.hid (rcounts_in (HR.out.1.new_ HK2.out) (Nat.le_trans HR.out.2.1 HK2.out.size) HR.out.2.2.1 hl)
  have HCE := Lib.hid (show ∀ i, cnt8 l i = lkC x l 0 i from fun i => rfl)
  have hcc : ∀ q i, lkC x l q i ≤ 500 := fun q i => lkC_le hl q i
  have HCC := Lib.hid hcc
  clear hcc
  generalize cnt8 l = c0 at *
  unfold labV at HC
  go_wp2_with fail
  refine HC.out.mono ?_
  rintro e w3 ⟨rfl, hk3⟩
  have H3 := Lib.hid (RC8.made c0 (Keep.refl No w3))
  have HK3 := Lib.hid hk3
  clear hk3 HC
  go_upto_region 8 with fail
  have HW4 := Lib.hid (show Keep No w3 (w3.alloc (.cells #[.int .i64 (c0 0 : Nat), .int .i64 (c0 1 : Nat), .int .i64 (c0 2 : Nat), .int .i64 (c0 3 : Nat), .int .i64 (c0 4 : Nat), .int .i64 (c0 5 : Nat), .int .i64 (c0 6 : Nat), .int .i64 (c0 7 : Nat)] 62)) from (Keep.refl No w3).alloc _)
  generalize w3.alloc (.cells #[.int .i64 (c0 0 : Nat), .int .i64 (c0 1 : Nat), .int .i64 (c0 2 : Nat), .int .i64 (c0 3 : Nat), .int .i64 (c0 4 : Nat), .int .i64 (c0 5 : Nat), .int .i64 (c0 6 : Nat), .int .i64 (c0 7 : Nat)] 62) = w4 at *
  generalize w3.heap.size = gc at *
  have HG0 := Lib.hid (show GuR B w (w4.alloc (.cells #[.int .i64 0, .int .i64 0] 110)) (.slice A l.length c) l x gc w4.heap.size c0 0 0 from by
    have k4 : Keep No w w4 := HK2.out.trans (HK3.out.trans HW4.out (fun _ y => y.elim)) (fun _ y => y.elim)
    have k5 := k4.alloc (.cells #[.int .i64 0, .int .i64 0] 110)
    have h4 := H3.out.new_ ((Keep.refl No w4).alloc (.cells #[.int .i64 0, .int .i64 0] 110))
    refine ⟨HR.out.1.new_ k5, HR.out.2.1, HB2.out.keep ((HK3.out.trans HW4.out (fun _ y => y.elim)).alloc _) (fun y => y), h4.at_, Blk.new w4 _ _, ⟨?_, ?_, h4.lt⟩, k5⟩
    · have := H3.out.lt; omega
    · have h1 := HB2.out.lt
      have h2 := (HK3.out.trans HW4.out (fun _ y => y.elim)).size
      omega)
  clear H3 HK3 HW4 HB2 HK2
  go_wp2_with fail
  generalize w4.alloc (.cells #[.int .i64 0, .int .i64 0] 110) = w5 at *
  generalize w4.heap.size = gm at *
  go_loopg [8, 10] 8 (fun kx s8 s10 wr => ∃ (k : Nat) (b num den : Int), s10 = .int .i64 k ∧ k ≤ 8 ∧ 8 ≤ k + kx ∧ s8 = .int .i64 b ∧ Hid (b = (gTo (lkC x l) k).best) ∧ Hid (0 ≤ b → num = (gTo (lkC x l) k).num ∧ den = (gTo (lkC x l) k).den) ∧ Hid (GuR B w wr (.slice A l.length c) l x gc gm c0 num den))
  case atStart => exact ⟨0, -1, 0, 0, rfl, by omega, by omega, rfl, Lib.hid rfl, Lib.hid (fun h => absurd h (by omega)), HG0⟩
  case round =>
    clear HG0
    obtain ⟨k, b, num, den, rfl, hk, hkx, rfl, HBE, HND, HG⟩ := hrel
    have j0 : (0 : Int) ≤ (k : Int) := by omega
    by_cases h8 : k < 8
    · have j1 : (k : Int) < 8 := by omega
      have hgd : decide ((k : Int) < 8) = true := decide_eq_true j1
      have hgd' : decide (k < 8) = true := decide_eq_true h8
      have ck := HG.out.ct k h8
      have hgt : gTo (lkC x l) (k + 1) = gStep (lkC x l) (gTo (lkC x l) k) k := rfl
      have HGT := Lib.hid hgt
      clear hgt
      by_cases hz : c0 k = 0
      · have HE := Lib.hid (show gStep (lkC x l) (gTo (lkC x l) k) k = gTo (lkC x l) k from by
          unfold gStep
          rw [if_pos (by rw [← HCE.out]; exact hz)])
        rw [hz] at ck
        clear hz
        go_wp2_with fail
        go_roundg (8 - (k + 1))
        case measure => omega
        case rel => exact ⟨k + 1, b, num, den, by go_num, by omega, by omega, rfl, Lib.hid (by rw [HGT.out, HE.out]; exact HBE.out), Lib.hid (by rw [HGT.out, HE.out]; exact HND.out), HG⟩
      · have hzz : ((c0 k : Int) == 0) = false := beq_eq_false_iff_ne.2 (by omega)
        have hzz' : (c0 k == 0) = false := beq_eq_false_iff_ne.2 hz
        have f0 := HG.out.bx.cell 0
        have f1 := HG.out.bx.cell 1
        have f2 := HG.out.bx.cell 2
        simp only [List.getElem?_toArray, List.getElem?_cons_zero, List.getElem?_cons_succ] at f0 f1 f2
        have HWt := Lib.hid (rworth_any x k HG.out.ro (Nat.le_trans HG.out.bs HG.out.kp.size) hl)
        have HZ := Lib.hid hz
        clear hz
        unfold ptV at HWt
        obtain ⟨a, ha⟩ : ∃ a, a = pA (lkC x l) k 3 := ⟨_, rfl⟩
        obtain ⟨d, hd⟩ : ∃ d, d = pB (lkC x l) k 3 := ⟨_, rfl⟩
        rw [← ha, ← hd] at HWt
        have HAD := Lib.hid (show _ ∧ _ from ⟨ha, hd⟩)
        clear ha hd
        go_wp2_with fail
        refine HWt.out.mono ?_
        rintro e w7 ⟨rfl, hk7⟩
        have HG7 := Lib.hid (HG.out.new_ hk7)
        clear hk7 HWt ck f0 f1 f2 HG hzz hzz'
        go_upto_region 14 with fail
        have HM8 := Lib.hid (Blk.new w7 110 #[.int .i64 a, .int .i64 d])
        have HG8 := Lib.hid (HG7.out.new_ ((Keep.refl No w7).alloc (.cells #[.int .i64 a, .int .i64 d] 110)))
        have hg7 : gm ≠ w7.heap.size := by have := HG7.out.mb.lt; omega
        clear HG7
        generalize w7.alloc (.cells #[.int .i64 a, .int .i64 d] 110) = w8 at *
        generalize w7.heap.size = g8 at *
        have m0 := HM8.out.cell 0
        have m1 := HM8.out.cell 1
        have n0 := HG8.out.mb.cell 0
        have n1 := HG8.out.mb.cell 1
        have z0 := HG8.out.mb.frozen 0
        have z1 := HG8.out.mb.frozen 1
        simp only [List.getElem?_toArray, List.getElem?_cons_zero, List.getElem?_cons_succ] at m0 m1 n0 n1
        by_cases hb0 : b < 0
        · have hbd : decide (b < 0) = true := decide_eq_true hb0
          have HE := Lib.hid (show gStep (lkC x l) (gTo (lkC x l) k) k = ⟨(k : Nat), a, d⟩ from by
            unfold gStep
            rw [if_neg (by rw [← HCE.out]; exact HZ.out), if_pos (.inl (by rw [← HBE.out]; exact hb0)), HAD.out.1, HAD.out.2])
          clear hb0
          go_wp2_with fail
          go_region
          all_goals
            go_wp2_with fail
            go_roundg (8 - (k + 1))
            case measure => omega
            case rel => exact ⟨k + 1, (k : Nat), a, d, by go_num, by omega, by omega, rfl, Lib.hid (by rw [HGT.out, HE.out]), Lib.hid (fun _ => by rw [HGT.out, HE.out]; exact ⟨rfl, rfl⟩), Lib.hid (HG8.out.put a d ((((Keep.refl (fun k => k = gm) w8).drew).setCell (p := ⟨gm, 0, none⟩) (.inl rfl) (.int .i64 a)).setCell (p := ⟨gm, 1, none⟩) (.inl rfl) (.int .i64 d)) ((HG8.out.mb.drew.set_ 0 (.int .i64 a)).set_ 1 (.int .i64 d)))⟩
        · have hbd : decide (b < 0) = false := decide_eq_false hb0
          obtain ⟨hn, hd⟩ := HND.out (by omega)
          have hef := end_fit HCC.out (gTo_bd HCC.out k (by omega)) k
          rw [← HAD.out.1, ← HAD.out.2, ← hn, ← hd] at hef
          obtain ⟨q1, q2⟩ := hef
          have HNN := Lib.hid (show _ ∧ _ from ⟨hn, hd⟩)
          have HB1 := Lib.hid hb0
          clear hn hd hb0
          by_cases hgt : num * d < a * den
          · have hgd2 : decide (num * d < a * den) = true := decide_eq_true hgt
            have HE := Lib.hid (show gStep (lkC x l) (gTo (lkC x l) k) k = ⟨(k : Nat), a, d⟩ from by
              unfold gStep
              rw [if_neg (by rw [← HCE.out]; exact HZ.out), ← HAD.out.1, ← HAD.out.2, if_pos (.inr (by rw [← HNN.out.1, ← HNN.out.2]; exact hgt))])
            clear hgt
            go_wp2_with fail
            go_region
            all_goals
              go_wp2_with fail
              go_roundg (8 - (k + 1))
              case measure => omega
              case rel => exact ⟨k + 1, (k : Nat), a, d, by go_num, by omega, by omega, rfl, Lib.hid (by rw [HGT.out, HE.out]), Lib.hid (fun _ => by rw [HGT.out, HE.out]; exact ⟨rfl, rfl⟩), Lib.hid (HG8.out.put a d ((((Keep.refl (fun k => k = gm) w8).drew).setCell (p := ⟨gm, 0, none⟩) (.inl rfl) (.int .i64 a)).setCell (p := ⟨gm, 1, none⟩) (.inl rfl) (.int .i64 d)) ((HG8.out.mb.drew.set_ 0 (.int .i64 a)).set_ 1 (.int .i64 d)))⟩
          · have hgd2 : decide (num * d < a * den) = false := decide_eq_false hgt
            have HE := Lib.hid (show gStep (lkC x l) (gTo (lkC x l) k) k = gTo (lkC x l) k from by
              unfold gStep
              rw [if_neg (by rw [← HCE.out]; exact HZ.out), ← HAD.out.1, ← HAD.out.2, if_neg]
              rintro (h | h)
              · exact HB1.out (by rw [HBE.out]; exact h)
              · rw [← HNN.out.1, ← HNN.out.2] at h
                exact hgt h)
            clear hgt
            go_wp2_with fail
            go_roundg (8 - (k + 1))
            case measure => omega
            case rel => exact ⟨k + 1, b, num, den, by go_num, by omega, by omega, rfl, Lib.hid (by rw [HGT.out, HE.out]; exact HBE.out), Lib.hid (by rw [HGT.out, HE.out]; exact HND.out), HG8⟩
    · obtain rfl : k = 8 := by omega
      have hgd : decide ((8 : Int) < 8) = false := rfl
      go_wp2_with fail
      go_ret2
      refine ⟨?_, HG.out.kp⟩
      rw [← HBE.out]
      rfl
theorem rguess_any {B : Nat} {w : World} {v : Value} {l : List Row} (x : Row) (h : RIn B w v l) (hB : B ≤ w.heap.size) (hok : ∀ r ∈ l, okRow r) (hl : l.length ≤ 500) :
    Calls Tryz.prog 19 #[v, ptV x] w fun e w' => e = .returned (.tuple #[.int .i64 (guessF x l), .int .i64 (guessE x l)]) ∧ Keep No w w' := by
  unfold guessF guessE
  by_cases hx : okPt x
  · by_cases h0 : l.length = 0
    · rw [if_neg (fun h => h.2 h0), if_neg (fun h => h hx), if_pos h0]
      obtain ⟨A, c, rfl, _⟩ := h
      rw [h0]
      exact rguess_none x hx
    · rw [if_pos ⟨hx, h0⟩, if_neg (fun h => h hx), if_neg h0]
      exact rguess_good x h hB hok hl hx (by omega)
  · rw [if_neg (fun h => hx h.1), if_pos hx]
    exact rguess_bad v x hx
end Go.Proofs.YtgabidgpngiecaaGreat
