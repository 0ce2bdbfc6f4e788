/- LearnSquares' walk. Conditions: it names its own. -/
import Derived.Test.YtgabidgpngiecaaLC0
import Derived.Test.YtgabidgpngiecaaLP3
namespace Go.Proofs.Ytgabidgpngiecaa
open Go.RowKit Go.Proofs.YtgabidgpngiecaaKit Go.Proofs.YtgabidgpngiecaaPlain

/-- What Line has handed back. -/
def LineSt (i j : Nat) (l : List Row) (P Q P' Q' E : Int) : Prop :=
  (disc (fun r => r.x i) l = 0 ∧ P = 0 ∧ Q = 0 ∧ P' = 0 ∧ Q' = 0 ∧ E = 3) ∨
  (0 < disc (fun r => r.x i) l ∧ E = 0 ∧
    Lowest ((l.length : Int) * sumf (fun r => r.x i * r.x j) l - sumf (fun r => r.x i) l * sumf (fun r => r.x j) l) (disc (fun r => r.x i) l) P Q ∧
    Lowest (sumf (fun r => r.x j) l * sumf (fun r => r.x i * r.x i) l - sumf (fun r => r.x i) l * sumf (fun r => r.x i * r.x j) l) (disc (fun r => r.x i) l) P' Q')
theorem line_out {i j : Nat} {l : List Row} {e : Ending} (h : LineRet i j l e) : ∃ P Q P' Q' E, e = .returned (.tuple #[.agg #[.int .i64 P, .int .i64 Q], .agg #[.int .i64 P', .int .i64 Q'], .int .i64 E]) ∧ LineSt i j l P Q P' Q' E := by
  rcases h with ⟨h, rfl⟩ | ⟨h, p, q, p', q', rfl, h1, h2⟩
  · exact ⟨0, 0, 0, 0, 3, rfl, .inl ⟨h, rfl, rfl, rfl, rfl, rfl⟩⟩
  · exact ⟨p, q, p', q', 0, rfl, .inr ⟨h, rfl, h1, h2⟩⟩
/-- The rows in v, and the fractions. -/
theorem lowest_mid {n d p q : Int} (h : Lowest n d p q) (h1 : Mid n) (h2 : Mid d) (hd : 0 < d) : Mid p ∧ Mid q := by
  obtain ⟨_, e1, e2, _⟩ := h
  have hg : 0 < Int.gcd n d := Int.gcd_pos_of_ne_zero_right _ (by omega)
  have a1 := congrArg Int.natAbs e1
  have a2 := congrArg Int.natAbs e2
  rw [Int.natAbs_mul, Int.natAbs_natCast] at a1 a2
  have b1 : p.natAbs ≤ n.natAbs := by rw [← a1]; exact Nat.le_mul_of_pos_right _ hg
  have b2 : q.natAbs ≤ d.natAbs := by rw [← a2]; exact Nat.le_mul_of_pos_right _ hg
  unfold Mid at *
  omega
theorem quiet_same {P : Program} {f : FuncId} {args : Array Value} {w : World} {a : Nat} {v : Value} (h : Calls P f args (w.drewN a) fun e w' => e = .returned v ∧ w.drewN a = w') :
    Calls P f args (w.drewN a) fun e w'' => e = .returned v ∧ ∃ m, w'' = w.drewN m := h.mono fun _ _ ⟨he, hw⟩ => ⟨he, a, hw.symm⟩
theorem mul_p {a b p : Int} (ha : 0 ≤ a ∧ a < p) (hb : 0 ≤ b ∧ b < p) (hp : p < 2147483648) : IntKind.i64.wrap (a * b) = a * b ∧ (a * b).tmod p = a * b % p ∧ IntKind.i64.wrap (a * b % p) = a * b % p ∧ (0 ≤ a * b % p ∧ a * b % p < p) ∧ 0 ≤ a * b ∧ a * b ≤ 4611686018427387904 := by
  have h1 := mul_bd (U := 2147483648) (V := 2147483648) (u := a) (v := b) (by omega) (by omega)
  have h2 := Int.mul_nonneg ha.1 hb.1
  have h3 := Int.emod_nonneg (a * b) (show p ≠ 0 by omega)
  have h4 := Int.emod_lt_of_pos (a * b) (show 0 < p by omega)
  exact ⟨IntWalk.i64_in _ ⟨by omega, by omega⟩, Int.tmod_eq_emod_of_nonneg h2, fit64 (by omega) (by omega), ⟨h3, h4⟩, h2, by omega⟩
structure SqSt (w W : World) (n : Nat) (v : Value) (R : List Row) (P Q P' Q' : Int) : Prop where
  ro : ROwn w.heap.size W v R
  b1 : Blk W n 27 #[.int .i64 P, .int .i64 Q]
  b2 : Blk W (n + 1) 27 #[.int .i64 P', .int .i64 Q']
  kp : Keep No w W
theorem SqSt.new_ {w W W' : World} {n : Nat} {v : Value} {R : List Row} {P Q P' Q' : Int} (h : SqSt w W n v R P Q P' Q') (hk : Keep No W W') : SqSt w W' n v R P Q P' Q' :=
  ⟨h.ro.keep hk (fun _ _ x => x), h.b1.keep hk (fun x => x), h.b2.keep hk (fun x => x), h.kp.trans hk (fun _ x => x.elim)⟩
theorem SqSt.start {w W : World} {v : Value} {R : List Row} (P Q P' Q' : Int) (h : ROwn w.heap.size W v R) (hk : Keep No w W) :
    SqSt w ((W.alloc (.cells #[.int .i64 P, .int .i64 Q] 27)).alloc (.cells #[.int .i64 P', .int .i64 Q'] 27)) W.heap.size v R P Q P' Q' := by
  have h2 := Blk.new (W.alloc (.cells #[.int .i64 P, .int .i64 Q] 27)) 27 #[.int .i64 P', .int .i64 Q']
  have hz : (W.alloc (.cells #[.int .i64 P, .int .i64 Q] 27)).heap.size = W.heap.size + 1 := by simp
  rw [hz] at h2
  exact ⟨(h.keep ((Keep.refl No W).alloc _) (fun _ _ x => x)).keep ((Keep.refl No _).alloc _) (fun _ _ x => x), (Blk.new _ _ _).alloc _, h2, (hk.alloc _).alloc _⟩

/-- Block n holds the two primes. -/
def Primes (W : World) (n : Nat) : Prop := ∀ k, k < 2 → ∃ p : Int, W.cell? ⟨n, k, none⟩ = some (.int .i64 p) ∧ 0 < p ∧ p < 2147483648
theorem primes_new (w : World) : Primes (w.alloc (.cells #[.int .i64 2147483647, .int .i64 2147483629] 2)) w.heap.size := by
  intro k hk
  have h := (Blk.new w 2 #[.int .i64 2147483647, .int .i64 2147483629]).cell k
  rcases (show k = 0 ∨ k = 1 by omega) with rfl | rfl
  · exact ⟨2147483647, h, by omega, by omega⟩
  · exact ⟨2147483629, h, by omega, by omega⟩
theorem Primes.new_ {W W' : World} {n : Nat} (h : Primes W n) (hk : Keep No W W') : Primes W' n := fun k hlt => by
  obtain ⟨p, h1, h2⟩ := h k hlt
  exact ⟨p, (hk.cell (p := ⟨n, k, none⟩) (World.block_lt_of_cell? _ _ h1) (fun x => x)).trans h1, h2⟩
structure Sq2 (w W : World) (n : Nat) (v : Value) (R : List Row) (P Q P' Q' : Int) (n3 : Nat) : Prop where
  sq : SqSt w W n v R P Q P' Q'
  pr : Primes W n3
theorem Sq2.new_ {w W W' : World} {n n3 : Nat} {v : Value} {R : List Row} {P Q P' Q' : Int} (h : Sq2 w W n v R P Q P' Q' n3) (hk : Keep No W W') : Sq2 w W' n v R P Q P' Q' n3 := ⟨h.sq.new_ hk, h.pr.new_ hk⟩
theorem ROwn.at_ {B : Nat} {w : World} {A : Option Addr} {c : Nat} {l : List Row} (h : ROwn B w (.slice A l.length c) l) (hn : 0 < l.length) : ∃ g', A = some ⟨g', 0, none⟩ ∧ g' < w.heap.size ∧ ∀ (k : Nat) (hk : k < l.length) (j : Nat) (u : Value), l[k].cells[j]? = some u → w.cell? ⟨g', k * 4 + j, none⟩ = some u := by
  obtain ⟨h1, ⟨_, h3⟩ | ⟨g', cap, cur, h2, _, hg, _⟩⟩ := id h
  · omega
  · injection h2 with h2 _ _
    subst h2
    refine ⟨g', rfl, Blk.lt hg, fun k hk j u hu => ?_⟩
    have := World.ownsRow.cells h (g := g') rfl _ u (rcells_get l k hk j u hu)
    rwa [Addr.add_lit, Nat.zero_add] at this
theorem row_cell (r : Row) {i : Nat} (hi : i < 3) : r.cells[i]? = some (.int .i64 (r.x i)) := by
  unfold Row.x
  rcases (show i = 0 ∨ i = 1 ∨ i = 2 by omega) with rfl | rfl | rfl <;> rfl

set_option maxHeartbeats 1500000 in
set_option maxRecDepth 100000 in
theorem learnSquares_walk {base : Nat} {w : World} {A : Option Addr} {c : Nat} {l : List Row} (by_ of_ : Nat) (h : RowsIn base w A l) (hmax : l.length ≤ maxLen) (hb : by_ < 256) (ho : of_ < 256) :
    Calls Try.prog 3 #[.slice A l.length c, .int .u8 (by_ : Nat), .int .u8 (of_ : Nat)] w fun e w' => e = .returned (.bool true) ∧ Keep No w w' := by
  have HB := Lib.hid (built_any (c := c) h hmax)
  have t1 : ((by_ : Nat) : Int).tmod 3 = ((by_ % 3 : Nat) : Int) := by rw [Int.tmod_eq_emod_of_nonneg (by omega)]; rfl
  have t2 : ((of_ : Nat) : Int).tmod 3 = ((of_ % 3 : Nat) : Int) := by rw [Int.tmod_eq_emod_of_nonneg (by omega)]; rfl
  have x1 : IntKind.i64.wrap ((by_ : Nat) : Int) = (by_ : Nat) := fit64 (by omega) (by omega)
  have x2 : IntKind.i64.wrap ((of_ : Nat) : Int) = (of_ : Nat) := fit64 (by omega) (by omega)
  have hi : by_ % 3 < 3 := Nat.mod_lt _ (by omega)
  have hj : of_ % 3 < 3 := Nat.mod_lt _ (by omega)
  generalize by_ % 3 = i at *
  generalize of_ % 3 = j at *
  have x3 : IntKind.i64.wrap (i : Int) = i := fit64 (by omega) (by omega)
  have x4 : IntKind.i64.wrap (j : Int) = j := fit64 (by omega) (by omega)
  clear h hmax
  go_enter Try.func3, Try.ntmps3
  go_wp2_with fail
  refine HB.out.mono ?_
  rintro e w1 ⟨v, R, rfl, hbi, hR3⟩
  obtain ⟨Av, cv, rfl, -⟩ := hbi.ro.shape
  have HI := Lib.hid hbi
  have HR3 := Lib.hid hR3
  have HOK := Lib.hid hbi.md.okay
  have HL := Lib.hid (line_any i j hbi.md hi hj)
  clear hbi hR3 HB
  go_wp2_with fail
  refine HL.out.mono ?_
  rintro e w2 ⟨hl2, hk2⟩
  obtain ⟨P, Q, P', Q', E, rfl, hL⟩ := line_out hl2
  have H0 := Lib.hid (SqSt.start P Q P' Q' (HI.out.new_ hk2).ro (HI.out.new_ hk2).kp)
  have HLS := Lib.hid hL
  clear hL hl2 hk2 HL HI t1 t2 x1 x2 x3 x4
  go_wp2_with fail
  generalize (w2.alloc (.cells #[.int .i64 P, .int .i64 Q] 27)).alloc (.cells #[.int .i64 P', .int .i64 Q'] 27) = w3 at *
  obtain ⟨f0, hf0⟩ : ∃ f0 : Int, ∀ r0, R[0]? = some r0 → r0.x i = f0 := by
    cases R with
    | nil => exact ⟨0, fun r0 h => by cases h⟩
    | cons r R => exact ⟨r.x i, fun r0 h => by simp at h; rw [h]⟩
  have HF := Lib.hid hf0
  clear hf0
  go_loopw [14, 49] (fun v14 v49 wr => ∃ (k : Nat) (bt : Bool), k ≤ R.length ∧ v49 = .int .i64 k ∧ v14 = .bool bt ∧ Hid (bt = two i f0 (R.take k)) ∧ Hid (SqSt w wr w2.heap.size (.slice Av R.length cv) R P Q P' Q')) (fun _ i _ => R.length - (intOf i).toNat)
  case atStart => exact ⟨0, false, Nat.zero_le _, rfl, rfl, Lib.hid rfl, H0⟩
  case round =>
    clear H0
    obtain ⟨k, bt, hk, rfl, rfl, hbt, hS⟩ := hrel
    have i0 : (0 : Int) ≤ (i : Int) := by omega
    have i1 : (i : Int) < 3 := by omega
    have hR300 := HR3.out
    by_cases hlt : k < R.length
    · obtain ⟨g', rfl, hg', hcells⟩ := hS.out.ro.at_ (by omega)
      have e0 := hcells k hlt 0 _ rfl
      have e1 := hcells k hlt 1 _ rfl
      have e2 := hcells k hlt 2 _ rfl
      have e3 := hcells k hlt 3 _ rfl
      have e9 := hcells 0 (by omega) i _ (row_cell R[0] hi)
      rw [HF.out R[0] (List.getElem?_eq_getElem (by omega))] at e9
      rw [Nat.add_zero] at e0
      rw [Nat.zero_mul, Nat.zero_add] at e9
      have hex := Lib.hid (List.take_append_getElem hlt)
      clear hcells
      generalize R[k] = p at *
      have c1 : (wr.alloc (.cells #[.int .i64 p.a, .int .i64 p.b, .int .i64 p.c, .int .i64 p.l] 33)).cell? ⟨wr.heap.size, i, none⟩ = some (.int .i64 (p.x i)) := by
        rw [(Blk.new wr 33 #[.int .i64 p.a, .int .i64 p.b, .int .i64 p.c, .int .i64 p.l]).cell i, List.getElem?_toArray]
        exact row_cell p hi
      have c2 : (wr.alloc (.cells #[.int .i64 p.a, .int .i64 p.b, .int .i64 p.c, .int .i64 p.l] 33)).cell? ⟨g', i, none⟩ = some (.int .i64 f0) := ((Keep.refl No wr).alloc _ |>.cell (p := ⟨g', i, none⟩) hg' (fun x => x)).trans e9
      have j0 : (0 : Int) ≤ (k : Int) := by omega
      have j1 : (k : Int) < (R.length : Int) := by omega
      have j2 : (0 : Int) < (R.length : Int) := by omega
      have H2 := Lib.hid (hS.out.new_ ((Keep.refl No wr).alloc (.cells #[.int .i64 p.a, .int .i64 p.b, .int .i64 p.c, .int .i64 p.l] 33)))
      generalize hpx : p.x i = px at *
      clear hS
      cases bt with
      | true =>
        go_wp2_with fail
        generalize wr.alloc (.cells #[.int .i64 p.a, .int .i64 p.b, .int .i64 p.c, .int .i64 p.l] 33) = w4 at *
        go_quiet (fail)
        go_wp2_with fail
        go_roundw
        case rel => exact ⟨k + 1, true, hlt, by go_num, rfl, Lib.hid (by rw [← hex.out, two_push, ← hbt.out]; rfl), Lib.hid (H2.out.new_ ((Keep.refl No w4).drewN nq))⟩
        case measure => simp [intOf]; omega
      | false =>
        go_wp2_with fail
        generalize wr.alloc (.cells #[.int .i64 p.a, .int .i64 p.b, .int .i64 p.c, .int .i64 p.l] 33) = w4 at *
        go_quiet (fail)
        go_wp2_with fail
        go_roundw
        case rel => exact ⟨k + 1, px != f0, hlt, by go_num, rfl, Lib.hid (by rw [← hex.out, two_push, ← hbt.out, hpx]; by_cases hq : px = f0 <;> simp [hq]), Lib.hid (H2.out.new_ ((Keep.refl No w4).drewN nq))⟩
        case measure => simp [intOf]; omega
    · have hkL : k = R.length := by omega
      subst hkL
      rw [List.take_length] at hbt
      have j1 : (R.length : Int) ≤ (R.length : Int) := Int.le_refl _
      have b10 := hS.out.b1.cell 0
      have b11 := hS.out.b1.cell 1
      have b20 := hS.out.b2.cell 0
      have b21 := hS.out.b2.cell 1
      simp only [List.getElem?_toArray, List.getElem?_cons_zero, List.getElem?_cons_succ] at b10 b11 b20 b21
      rcases HLS.out with ⟨hd, rfl, rfl, rfl, rfl, rfl⟩ | ⟨hd, rfl, hl1, hl2⟩
      · obtain rfl : bt = false := by
          rw [hbt.out]
          cases R with
          | nil => rfl
          | cons r R => rw [← HF.out r rfl]; exact two_zero (l := r :: R) rfl hd
        have HK := Lib.hid hS.out.kp
        have HAl := Lib.hid (fun W => alive_any W)
        clear HLS HF hS hbt hd
        go_wp2_with (go_at_call 12; refine (HAl.out _).mono ?_; rintro e w5 ⟨rfl, hk5⟩; have HK5 := Lib.hid (HK.out.trans hk5 (fun _ x => x.elim)); clear hk5)
        go_ret
        exact ⟨rfl, HK5.out⟩
      · obtain rfl : bt = true := by
          rw [hbt.out]
          cases R with
          | nil => simp [disc, sumf] at hd
          | cons r R => rw [← HF.out r rfl]; exact two_pos (l := r :: R) rfl hd
        have hbd := bnd_rows (l := R) i j (by omega) HOK.out
        have hm1 := lowest_mid hl1 hbd.d2 hbd.d1 hd
        have hm2 := lowest_mid hl2 hbd.d3 hbd.d1 hd
        have HW1 := Lib.hid (fun W => lawlowest_any (p := P) (q := Q) W hl1.one hl1.pos hm1.1 hm1.2)
        have HW2 := Lib.hid (fun W => lawlowest_any (p := P') (q := Q') W hl2.one hl2.pos hm2.1 hm2.2)
        have HZ := Lib.hid (fun p => squares_zero p i j hd hl1 hl2)
        have p1 := hl1.pos
        have p2 := hl2.pos
        have r1 : decide (Q < 1) = false := decide_eq_false (by omega)
        have r2 : decide (Q' < 1) = false := decide_eq_false (by omega)
        have HS := Lib.hid hS.out
        have l11 : ∀ W, Keep No wr W → W.cell? ⟨w2.heap.size, 0, none⟩ = some (.int .i64 P) := fun W hW => (hS.out.b1.keep hW (fun x => x)).cell 0
        clear HLS HF hS hbt hd hl1 hl2 hbd hm1 hm2 l11
        go_wp2_with fail
        refine (HW1.out _).mono ?_
        rintro e w5 ⟨rfl, hk5⟩
        have HS5 := Lib.hid (HS.out.new_ hk5)
        have d20 := HS5.out.b2.cell 0
        have d21 := HS5.out.b2.cell 1
        simp only [List.getElem?_toArray, List.getElem?_cons_zero, List.getElem?_cons_succ] at d20 d21
        clear HS hk5 b10 b11 b20 b21
        go_wp2_with fail
        refine (HW2.out _).mono ?_
        rintro e w6 ⟨rfl, hk6⟩
        have HS6 := Lib.hid (HS5.out.new_ (hk6.alloc (.cells #[.int .i64 2147483647, .int .i64 2147483629] 2)))
        have HP6 := Lib.hid (primes_new w6)
        have hn6 : w6.heap.size < (w6.alloc (.cells #[.int .i64 2147483647, .int .i64 2147483629] 2)).heap.size := by simp
        clear HS5 hk6 d20 d21 HW1 HW2
        go_wp2_with fail
        generalize w6.alloc (.cells #[.int .i64 2147483647, .int .i64 2147483629] 2) = w7 at *
        generalize w6.heap.size = n3 at *
        go_loopw [109] (fun v109 wr => ∃ k : Nat, k ≤ 2 ∧ v109 = .int .i64 k ∧ Hid (SqSt w wr w2.heap.size (.slice Av R.length cv) R P Q P' Q') ∧ Hid (Primes wr n3)) (fun i _ => 2 - (intOf i).toNat)
        case atStart => exact ⟨0, by omega, rfl, HS6, HP6⟩
        case round =>
          clear HS6 HP6
          obtain ⟨k, hk, rfl, hS, hP⟩ := hrel
          by_cases hlt : k < 2
          · obtain ⟨p, hp0, hp1, hp2⟩ := hP.out k hlt
            have k0 : (0 : Int) ≤ (k : Int) := by omega
            have k1 : (k : Int) < 2 := by omega
            have HZp := Lib.hid (HZ.out p)
            have H0 := Lib.hid (show Sq2 w _ w2.heap.size (.slice Av R.length cv) R P Q P' Q' n3 from ⟨hS.out, hP.out⟩)
            clear hS hP HZ
            go_wp2_with fail
            go_loopw [19, 20, 115] (fun v19 v20 v115 wq => ∃ (m : Nat) (S T : Int), m ≤ R.length ∧ v115 = .int .i64 m ∧ v19 = .int .i64 S ∧ v20 = .int .i64 T ∧ Hid (S = goS p (fun r => diff p P Q P' Q' (r.x i) (r.x j)) (R.take m)) ∧ Hid (T = goS p (fun r => diff p P Q P' Q' (r.x i) (r.x j) * (r.x i % p)) (R.take m)) ∧ Hid (Sq2 w wq w2.heap.size (.slice Av R.length cv) R P Q P' Q' n3)) (fun _ _ i _ => R.length - (intOf i).toNat)
            case atStart => exact ⟨0, 0, 0, Nat.zero_le _, rfl, rfl, rfl, Lib.hid (by rw [List.take_zero, goS_nil]), Lib.hid (by rw [List.take_zero, goS_nil]), H0⟩
            case round =>
              clear H0
              obtain ⟨m, S, T, hm, rfl, rfl, rfl, hSs, hTs, h2⟩ := hrel
              by_cases hlm : m < R.length
              · obtain ⟨g', rfl, hg', hcells⟩ := h2.out.sq.ro.at_ (by omega)
                have e0 := hcells m hlm 0 _ rfl
                have e1 := hcells m hlm 1 _ rfl
                have e2 := hcells m hlm 2 _ rfl
                have e3 := hcells m hlm 3 _ rfl
                rw [Nat.add_zero] at e0
                have hex := Lib.hid (List.take_append_getElem hlm)
                clear hcells
                generalize R[m] = r at *
                have hB8 := Blk.new wr 33 #[.int .i64 r.a, .int .i64 r.b, .int .i64 r.c, .int .i64 r.l]
                have c1 : (wr.alloc (.cells #[.int .i64 r.a, .int .i64 r.b, .int .i64 r.c, .int .i64 r.l] 33)).cell? ⟨wr.heap.size, i, none⟩ = some (.int .i64 (r.x i)) := by
                  rw [hB8.cell i, List.getElem?_toArray]
                  exact row_cell r hi
                have c2 : (wr.alloc (.cells #[.int .i64 r.a, .int .i64 r.b, .int .i64 r.c, .int .i64 r.l] 33)).cell? ⟨wr.heap.size, j, none⟩ = some (.int .i64 (r.x j)) := by
                  rw [hB8.cell j, List.getElem?_toArray]
                  exact row_cell r hj
                have H8 := Lib.hid (h2.out.new_ ((Keep.refl No wr).alloc (.cells #[.int .i64 r.a, .int .i64 r.b, .int .i64 r.c, .int .i64 r.l] 33)))
                have d10 := H8.out.sq.b1.cell 0
                have d11 := H8.out.sq.b1.cell 1
                have d20 := H8.out.sq.b2.cell 0
                have d21 := H8.out.sq.b2.cell 1
                simp only [List.getElem?_toArray, List.getElem?_cons_zero, List.getElem?_cons_succ] at d10 d11 d20 d21
                have hSn := Lib.hid ((goS_push p (fun r => diff p P Q P' Q' (r.x i) (r.x j)) (R.take m) r).trans (by rw [hex.out]))
                have hTn := Lib.hid ((goS_push p (fun r => diff p P Q P' Q' (r.x i) (r.x j) * (r.x i % p)) (R.take m) r).trans (by rw [hex.out]))
                rw [← hSs.out] at hSn
                rw [← hTs.out] at hTn
                have bS : 0 ≤ S ∧ S < p := hSs.out ▸ goS_bound hp1 _ _
                have bT : 0 ≤ T ∧ T < p := hTs.out ▸ goS_bound hp1 _ _
                have i0 : (0 : Int) ≤ (i : Int) := by omega
                have i1 : (i : Int) < 3 := by omega
                have j0 : (0 : Int) ≤ (j : Int) := by omega
                have j1 : (j : Int) < 3 := by omega
                have hR300 := HR3.out
                have m0 : (0 : Int) ≤ (m : Int) := by omega
                have m1 : (m : Int) < (R.length : Int) := by omega
                have hpn : p ≠ 0 := by omega
                have em : ∀ z : Int, 0 ≤ z % p ∧ z % p < p := fun z => ⟨Int.emod_nonneg z hpn, Int.emod_lt_of_pos z hp1⟩
                generalize r.x i = px at *
                generalize r.x j = py at *
                have hdf := diff_go p P Q P' Q' px py
                obtain ⟨xx, exx⟩ : ∃ z, px % p = z := ⟨_, rfl⟩
                obtain ⟨yy, eyy⟩ : ∃ z, py % p = z := ⟨_, rfl⟩
                obtain ⟨a1, ea1⟩ : ∃ z, P % p = z := ⟨_, rfl⟩
                obtain ⟨a2, ea2⟩ : ∃ z, Q % p = z := ⟨_, rfl⟩
                obtain ⟨a3, ea3⟩ : ∃ z, P' % p = z := ⟨_, rfl⟩
                obtain ⟨a4, ea4⟩ : ∃ z, Q' % p = z := ⟨_, rfl⟩
                have bxx := em px
                have byy := em py
                have ba1 := em P
                have ba2 := em Q
                have ba3 := em P'
                have ba4 := em Q'
                rw [exx] at bxx hdf hTn
                rw [eyy] at byy hdf
                rw [ea1] at ba1 hdf
                rw [ea2] at ba2 hdf
                rw [ea3] at ba3 hdf
                rw [ea4] at ba4 hdf
                obtain ⟨w1a, w1b, w1c, bu1, -, -⟩ := mul_p ba2 ba4 hp2
                obtain ⟨u1, eu1⟩ : ∃ z, a2 * a4 % p = z := ⟨_, rfl⟩
                rw [eu1] at w1b w1c bu1 hdf
                obtain ⟨w2a, w2b, w2c, bu2, -, -⟩ := mul_p byy bu1 hp2
                obtain ⟨u2, eu2⟩ : ∃ z, yy * u1 % p = z := ⟨_, rfl⟩
                rw [eu2] at w2b w2c bu2 hdf
                obtain ⟨w3a, w3b, w3c, bu3, -, -⟩ := mul_p ba1 ba4 hp2
                obtain ⟨u3, eu3⟩ : ∃ z, a1 * a4 % p = z := ⟨_, rfl⟩
                rw [eu3] at w3b w3c bu3 hdf
                obtain ⟨w4a, w4b, w4c, bu4, -, -⟩ := mul_p bu3 bxx hp2
                obtain ⟨u4, eu4⟩ : ∃ z, u3 * xx % p = z := ⟨_, rfl⟩
                rw [eu4] at w4b w4c bu4 hdf
                obtain ⟨w5a, w5b, w5c, bu5, -, -⟩ := mul_p ba3 ba2 hp2
                obtain ⟨u5, eu5⟩ : ∃ z, a3 * a2 % p = z := ⟨_, rfl⟩
                rw [eu5] at w5b w5c bu5 hdf
                have w6a : IntKind.i64.wrap (u2 - u4) = u2 - u4 := fit64 (by omega) (by omega)
                have w6b : IntKind.i64.wrap (u2 - u4 - u5) = u2 - u4 - u5 := fit64 (by omega) (by omega)
                have bdd := diff_bound hp1 P Q P' Q' px py
                generalize diff p P Q P' Q' px py = dd at *
                obtain ⟨w7a, -, -, -, n7, b7⟩ := mul_p bdd bxx hp2
                have w8a : IntKind.i64.wrap (S + dd) = S + dd := fit64 (by omega) (by omega)
                have w8b : IntKind.i64.wrap (T + dd * xx) = T + dd * xx := IntWalk.i64_in _ ⟨by omega, by omega⟩
                have HM := Lib.hid (fun W (x z : Int) (hz : x % p = z) => hz ▸ mod_any (x := x) (p := p) W hp1 (by omega))
                obtain ⟨S', eS⟩ : ∃ z, (S + dd) % p = z := ⟨_, rfl⟩
                obtain ⟨T', eT⟩ : ∃ z, (T + dd * xx) % p = z := ⟨_, rfl⟩
                have HQ := Lib.hid (show _ ∧ _ from ⟨eS ▸ hSn.out, eT ▸ hTn.out⟩)
                have HE := Lib.hid (show _ ∧ _ ∧ _ ∧ _ ∧ _ ∧ _ ∧ _ ∧ _ ∧ _ from ⟨exx, eyy, ea1, ea2, ea3, ea4, hdf, eS, eT⟩)
                clear hSs hTs h2 bxx byy ba1 ba2 ba3 ba4 bu1 bu2 bu3 bu4 bu5 eu1 eu2 eu3 eu4 eu5 exx eyy ea1 ea2 ea3 ea4 hdf eS eT bdd n7 b7 bS bT hB8 em hSn hTn
                go_wp2_with fail
                generalize wr.alloc (.cells #[.int .i64 r.a, .int .i64 r.b, .int .i64 r.c, .int .i64 r.l] 33) = w8 at *
                go_quiet ((first
                  | (go_at_call 14; with_reducible exact quiet_same (HM.out _ _ _ HE.out.1))
                  | (go_at_call 14; with_reducible exact quiet_same (HM.out _ _ _ HE.out.2.1))))
                go_wp2_with fail
                have H9 := Lib.hid (H8.out.new_ ((Keep.refl No w8).drewN nq))
                have d10' : (w8.drewN nq).cell? ⟨w2.heap.size, 0, none⟩ = some (.int .i64 P) := d10
                have d11' : (w8.drewN nq).cell? ⟨w2.heap.size, 1, none⟩ = some (.int .i64 Q) := d11
                have d20' : (w8.drewN nq).cell? ⟨w2.heap.size + 1, 0, none⟩ = some (.int .i64 P') := d20
                have d21' : (w8.drewN nq).cell? ⟨w2.heap.size + 1, 1, none⟩ = some (.int .i64 Q') := d21
                clear d10 d11 d20 d21 c1 c2 H8 e0 e1 e2 e3
                generalize w8.drewN nq = w9 at *
                go_quiet ((first
                  | (go_at_call 14; with_reducible exact quiet_same (HM.out _ _ _ HE.out.2.2.1))
                  | (go_at_call 14; with_reducible exact quiet_same (HM.out _ _ _ HE.out.2.2.2.1))
                  | (go_at_call 14; with_reducible exact quiet_same (HM.out _ _ _ HE.out.2.2.2.2.1))
                  | (go_at_call 14; with_reducible exact quiet_same (HM.out _ _ _ HE.out.2.2.2.2.2.1))
                  | (go_at_call 14; with_reducible exact quiet_same (HM.out _ _ _ HE.out.2.2.2.2.2.2.1))))
                clear d10' d11' d20' d21'
                go_wp2_with (first
                  | (go_at_call 14; with_reducible refine Calls.mono (HM.out _ _ _ HE.out.2.2.2.2.2.2.2.1) ?_; rintro e w' ⟨rfl, rfl⟩)
                  | (go_at_call 14; with_reducible refine Calls.mono (HM.out _ _ _ HE.out.2.2.2.2.2.2.2.2) ?_; rintro e w' ⟨rfl, rfl⟩))
                go_roundw
                case rel => exact ⟨m + 1, S', T', hlm, by go_num, rfl, rfl, Lib.hid HQ.out.1, Lib.hid HQ.out.2, Lib.hid (H9.out.new_ ((Keep.refl No w9).drewN nq))⟩
                case measure => simp [intOf]; omega
              · have hmL : m = R.length := by omega
                subst hmL
                rw [List.take_length] at hSs hTs
                obtain rfl : S = 0 := hSs.out.trans HZp.out.1
                obtain rfl : T = 0 := hTs.out.trans HZp.out.2
                have m1 : (R.length : Int) ≤ (R.length : Int) := Int.le_refl _
                have H2 := Lib.hid h2.out
                clear hSs hTs h2 HZp
                go_wp2_with fail
                go_roundw
                case rel => exact ⟨k + 1, by omega, by go_num, Lib.hid H2.out.sq, Lib.hid H2.out.pr⟩
                case measure => simp [intOf]; omega
          · obtain rfl : k = 2 := by omega
            have HAl := Lib.hid (fun W => alive_any W)
            have HK := Lib.hid hS.out.kp
            clear hS hP HZ
            go_wp2_with (go_at_call 12; refine (HAl.out _).mono ?_; rintro e w8 ⟨rfl, hk8⟩; have HK8 := Lib.hid (HK.out.trans hk8 (fun _ x => x.elim)); clear hk8)
            go_ret
            exact ⟨rfl, HK8.out⟩
end Go.Proofs.Ytgabidgpngiecaa
