/- Contracts of the reference's Learn, Sorted. Conditions: each names its own. -/
import Derived.Test.YtgabidgpngiecaaLR0
import Derived.Test.YtgabidgpngiecaaLB0
import Derived.Test.YtgabidgpngiecaaLK3
import Derived.Deep.CutBlock
namespace Go.Proofs.Ytgabidgpngiecaa
open Go.RowKit Go.Proofs.YtgabidgpngiecaaKit Go.Proofs.YtgabidgpngiecaaPlain Go.Sort

/-! ### Plain: rows in order -/
def insR (r : Row) : List Row → List Row
  | [] => [r]
  | x :: l => if lexLt r x then r :: x :: l else x :: insR r l
theorem insR_at (r : Row) : ∀ (l : List Row) (k : Nat), k ≤ l.length → (∀ j (h : j < l.length), j < k → ¬ lexLt r l[j]) → (∀ h : k < l.length, lexLt r l[k]) → insR r l = l.take k ++ r :: l.drop k
  | [], k, _, _, _ => by simp [insR]
  | x :: l, 0, _, _, h2 => by
    have h3 : lexLt r x := h2 (by simp)
    rw [insR, if_pos h3]; rfl
  | x :: l, k + 1, hk, h1, h2 => by
    have h3 : ¬ lexLt r x := h1 0 (by simp) (by omega)
    rw [insR, if_neg h3, insR_at r l k (by simpa using hk) (fun j hj hjk => h1 (j + 1) (by simpa using hj) (by omega)) (fun h => h2 (by simpa using h))]
    rfl
def learnE (l : List Row) (r : Row) : Int := if okRow r then (if 500 ≤ l.length then 5 else 0) else 1
def learnL (l : List Row) (r : Row) : List Row := if okRow r then (if 500 ≤ l.length then l else insR r l) else l

/-! ### Rows in slices -/
theorem rcells_cons (p : Row) (l : List Row) : rcells (p :: l) = p.cells ++ rcells l := by simp [rcells]
theorem rcells_append (l l' : List Row) : rcells (l ++ l') = rcells l ++ rcells l' := by simp [rcells]
theorem rcells_take : ∀ (l : List Row) (k : Nat), rcells (l.take k) = (rcells l).take (k * 4)
  | [], k => by simp [rcells]
  | p :: l, 0 => by simp [rcells]
  | p :: l, k + 1 => by
    rw [List.take_succ_cons, rcells_cons, rcells_take l k, rcells_cons, show (k + 1) * 4 = p.cells.length + k * 4 by show _ = 4 + k * 4; omega, List.take_length_add_append]
theorem rcells_drop : ∀ (l : List Row) (k : Nat), rcells (l.drop k) = (rcells l).drop (k * 4)
  | [], k => by simp [rcells]
  | p :: l, 0 => by simp
  | p :: l, k + 1 => by
    rw [List.drop_succ_cons, rcells_drop l k, rcells_cons, show (k + 1) * 4 = p.cells.length + k * 4 by show _ = 4 + k * 4; omega, List.drop_length_add_append]
theorem rcells_one (l : List Row) : ∀ u ∈ rcells l, u.oneCell' = true := by
  intro u hu
  unfold rcells at hu
  obtain ⟨cs, hcs, h1⟩ := List.mem_flatten.1 hu
  obtain ⟨r, _, rfl⟩ := List.mem_map.1 hcs
  exact row_one r u h1
/-- The value v reads as these rows. -/
def RIn (base : Nat) (w : World) (v : Value) (l : List Row) : Prop := ∃ A c, v = .slice A l.length c ∧ l.length ≤ c ∧ RowsIn base w A l
theorem RowsIn.new_ {base : Nat} {w w1 : World} {A : Option Addr} {l : List Row} (h : RowsIn base w A l) (hk : Keep No w w1) : RowsIn base w1 A l := Reads.new_ h hk
theorem RIn.new_ {base : Nat} {w w1 : World} {v : Value} {l : List Row} (h : RIn base w v l) (hk : Keep No w w1) : RIn base w1 v l := by
  obtain ⟨A, c, h1, h2, h3⟩ := h
  exact ⟨A, c, h1, h2, h3.new_ hk⟩
theorem ROwn.rin {B base : Nat} {w : World} {v : Value} {l : List Row} (h : ROwn B w v l) : RIn base w v l := by
  obtain ⟨A, c, rfl, hc⟩ := own_shape h
  exact ⟨A, c, rfl, hc, Reads.of_own h rfl⟩
theorem rrows_take {base : Nat} {w : World} {A : Option Addr} {l : List Row} (h : RowsIn base w A l) {k : Nat} (hk : k ≤ l.length) : Reads base w 33 4 A k (rcells (l.take k)) := by
  rw [rcells_take]
  exact Reads.take h hk
theorem rrows_drop {base : Nat} {w : World} {A : Option Addr} {l : List Row} (h : RowsIn base w A l) {k c : Nat} (hk : k ≤ l.length) (hc : l.length ≤ c) : Reads base w 33 4 (if c = k then A else A.map (·.add (k * 4))) (l.length - k) (rcells (l.drop k)) := by
  rw [rcells_drop]
  exact Reads.cut h hk hc
theorem own_empty {B : Nat} {w : World} (t : TypeId) (size : Nat) (hB : B ≤ w.heap.size) : (w.alloc (.cells #[] t)).ownsRow B t size (.slice (some ⟨w.heap.size, 0, none⟩) 0 0) 0 [] := by
  refine ⟨by simp, .inr ⟨w.heap.size, 0, #[], rfl, hB, heap_alloc_new w _, Nat.le_refl _, Nat.zero_le _, by simp, by simp⟩⟩
theorem insR_own {B k : Nat} {w : World} {v : Value} {r : Row} {l : List Row} (h : insR r l = l.take k ++ r :: l.drop k) (hk : k ≤ l.length) (ho : w.ownsRow B 33 4 v (k + 1 + (l.length - k)) (rcells (l.take k ++ [r]) ++ rcells (l.drop k))) : ROwn B w v (insR r l) := by
  have e : l.take k ++ r :: l.drop k = (l.take k ++ [r]) ++ l.drop k := by simp
  have hn : ((l.take k ++ [r]) ++ l.drop k).length = k + 1 + (l.length - k) := by simp; omega
  unfold ROwn
  rw [h, e, hn, rcells_append]
  exact ho
structure RSt (base : Nat) (w W : World) (v : Value) (l : List Row) (g : Nat) (r : Row) : Prop where
  rw_ : RIn base W v l
  bk : Blk W g 33 #[.int .i64 r.a, .int .i64 r.b, .int .i64 r.c, .int .i64 r.l]
  kp : Keep No w W
theorem RSt.new_ {base : Nat} {w W W' : World} {v : Value} {l : List Row} {g : Nat} {r : Row} (h : RSt base w W v l g r) (hk : Keep No W W') : RSt base w W' v l g r := ⟨h.rw_.new_ hk, h.bk.keep hk (fun x => x), h.kp.trans hk (fun _ x => x.elim)⟩

set_option maxHeartbeats 1000000 in
set_option maxRecDepth 100000 in
theorem rlearn_any {base : Nat} {w : World} {v : Value} {l : List Row} (r : Row) (h : RIn base w v l) (_hb : base ≤ w.heap.size) (hmax : l.length ≤ 1000000) :
    Calls Try.prog 28 #[v, r.v] w fun e w' => ∃ v', e = .returned (.tuple #[v', .int .i64 (learnE l r)]) ∧ RIn base w' v' (learnL l r) ∧ Keep No w w' := by
  have mixed : Try.prog.follows .mixedOrders = true := by kernel_rfl
  obtain ⟨i0, hi0, hz0, hz1, hz2⟩ := info_parts info_row
  have B0 := Blk.new w 33 #[.int .i64 r.a, .int .i64 r.b, .int .i64 r.c, .int .i64 r.l]
  have k0 := (Keep.refl No w).alloc (.cells #[.int .i64 r.a, .int .i64 r.b, .int .i64 r.c, .int .i64 r.l] 33)
  have H0 := Lib.hid (show RSt base w _ v l w.heap.size r from ⟨h.new_ k0, B0, k0⟩)
  have HA := Lib.hid (fun W => rallowed_any r W)
  have f0 := B0.cell 0
  have f1 := B0.cell 1
  have f2 := B0.cell 2
  have f3 := B0.cell 3
  simp only [List.getElem?_toArray, List.getElem?_cons_zero, List.getElem?_cons_succ] at f0 f1 f2 f3
  obtain ⟨A, c, rfl, hc, hR00⟩ := h
  have H00 := Lib.hid hR00
  clear B0 k0 hR00
  unfold learnE learnL Row.v
  by_cases hr : okRow r
  · rw [decide_eq_true hr] at HA
    rw [if_pos hr, if_pos hr]
    by_cases hl5 : 500 ≤ l.length
    · rw [if_pos hl5, if_pos hl5]
      have hlz : (500 : Int) ≤ (l.length : Int) := by omega
      go_enter Try.func28, Try.ntmps28
      go_wp2_with fail
      generalize w.alloc (.cells #[.int .i64 r.a, .int .i64 r.b, .int .i64 r.c, .int .i64 r.l] 33) = w0 at *
      unfold Row.v at HA
      refine (HA.out w0).mono ?_
      rintro e w1 ⟨rfl, k1⟩
      have H1 := Lib.hid (H0.out.new_ k1)
      clear k1
      go_wp2_with fail
      go_ret2
      exact ⟨_, rfl, H1.out.rw_, H1.out.kp⟩
    · rw [if_neg hl5, if_neg hl5]
      have hlz : ¬ (500 : Int) ≤ (l.length : Int) := by omega
      have hln : l.length < 500 := by omega
      go_enter Try.func28, Try.ntmps28
      go_wp2_with fail
      generalize w.alloc (.cells #[.int .i64 r.a, .int .i64 r.b, .int .i64 r.c, .int .i64 r.l] 33) = w0 at *
      unfold Row.v at HA
      refine (HA.out w0).mono ?_
      rintro e w1 ⟨rfl, k1⟩
      have H1 := Lib.hid (H0.out.new_ k1)
      clear k1 H0 HA f0 f1 f2 f3 hl5
      go_upto_block 0 with fail
      go_cut [7] (fun s7 wc => ∃ k : Nat, s7 = .int .i64 k ∧ k ≤ l.length ∧ Hid (insR r l = l.take k ++ r :: l.drop k) ∧ Hid (RSt base w wc (.slice A l.length c) l w.heap.size r))
      case first =>
        go_wp2_with fail
        go_loopw [7] (fun v7 wr => ∃ k : Nat, k ≤ l.length ∧ v7 = .int .i64 k ∧ Hid (∀ j (h : j < l.length), j < k → ¬ lexLt r l[j]) ∧ Hid (RSt base w wr (.slice A l.length c) l w.heap.size r)) (fun i _ => l.length - (intOf i).toNat)
        case atStart => exact ⟨0, Nat.zero_le _, rfl, Lib.hid (fun j _ h => by omega), H1⟩
        case round =>
          clear H1
          obtain ⟨k, hk, rfl, hI, hS⟩ := hrel
          have hz0 : (0 : Int) ≤ (k : Int) := by omega
          by_cases hlt : k < l.length
          · have hlz2 : (k : Int) < (l.length : Int) := by omega
            have hgd : decide ((k : Int) < (l.length : Int)) = true := decide_eq_true hlz2
            obtain ⟨A0, c0, eA, _, hR0⟩ := hS.out.rw_
            injection eA with eA _ ec
            subst eA
            subst ec
            have hat : ∀ n os, ∃ ad, A = some ad ∧ _ := fun n os => (hR0.new_ (Grown.keep ⟨n, os, rfl⟩ : Keep No wr (grow (wr.drewN n) os))).at_ hlt
            obtain ⟨ad, rfl, _⟩ := hat 0 #[]
            have hat2 : ∀ n os, (grow (wr.drewN n) os).cell? (ad.add (k * 4)) = some (.int .i64 l[k].a) ∧ (grow (wr.drewN n) os).cell? ⟨(ad.add (k * 4)).block, (ad.add (k * 4)).off + 1, none⟩ = some (.int .i64 l[k].b) ∧ (grow (wr.drewN n) os).cell? ⟨(ad.add (k * 4)).block, (ad.add (k * 4)).off + 2, none⟩ = some (.int .i64 l[k].c) ∧ (grow (wr.drewN n) os).cell? ⟨(ad.add (k * 4)).block, (ad.add (k * 4)).off + 3, none⟩ = some (.int .i64 l[k].l) := fun n os => by
              obtain ⟨ad', e, _, h1, h2, h3, h4⟩ := hat n os
              injection e with e
              subst e
              exact ⟨h1, h2, h3, h4⟩
            have e0 := fun n os => (hat2 n os).1
            have e1 := fun n os => (hat2 n os).2.1
            have e2 := fun n os => (hat2 n os).2.2.1
            have e3 := fun n os => (hat2 n os).2.2.2
            have b0 : ∀ n os, (grow (wr.drewN n) os).cell? ⟨w.heap.size, 0, none⟩ = some (.int .i64 r.a) := fun n os => (hS.out.bk.keep (Grown.keep ⟨n, os, rfl⟩ : Keep No wr (grow (wr.drewN n) os)) (fun x => x)).cell 0
            have b1 : ∀ n os, (grow (wr.drewN n) os).cell? ⟨w.heap.size, 1, none⟩ = some (.int .i64 r.b) := fun n os => (hS.out.bk.keep (Grown.keep ⟨n, os, rfl⟩ : Keep No wr (grow (wr.drewN n) os)) (fun x => x)).cell 1
            have b2 : ∀ n os, (grow (wr.drewN n) os).cell? ⟨w.heap.size, 2, none⟩ = some (.int .i64 r.c) := fun n os => (hS.out.bk.keep (Grown.keep ⟨n, os, rfl⟩ : Keep No wr (grow (wr.drewN n) os)) (fun x => x)).cell 2
            have b3 : ∀ n os, (grow (wr.drewN n) os).cell? ⟨w.heap.size, 3, none⟩ = some (.int .i64 r.l) := fun n os => (hS.out.bk.keep (Grown.keep ⟨n, os, rfl⟩ : Keep No wr (grow (wr.drewN n) os)) (fun x => x)).cell 3
            have HX := Lib.hid (show ∀ h : k < l.length, l[k] = l[k] from fun _ => rfl)
            have HB := Lib.hid (fun W => before_any r l[k] W)
            have HPm := Lib.hid (show ∀ j (h : j < l.length), j < k + 1 → j = k ∨ j < k from fun j _ h => by omega)
            clear hat hat2 hR0
            by_cases hb4 : lexLt r l[k]
            · rw [decide_eq_true hb4] at HB
              have HI2 := Lib.hid (insR_at r l k hk hI.out (fun _ => hb4))
              generalize l[k] = x at *
              unfold Row.v at HB
              clear hb4 HX
              go_wp2_with fail
              go_quiet_grown (first | (go_at_call 43; refine Calls.grown_of (HB.out _)))
              go_wp2_with fail
              go_meet
              case rel => exact ⟨k, rfl, hk, HI2, Lib.hid (hS.out.new_ (Grown.keep ⟨_, _, rfl⟩))⟩
            · rw [decide_eq_false hb4] at HB
              have HI2 := Lib.hid (show ∀ j (h : j < l.length), j < k + 1 → ¬ lexLt r l[j] from fun j h hj => by
                rcases HPm.out j h hj with rfl | h2
                · exact hb4
                · exact hI.out j h h2)
              clear hI hb4 HX HPm
              generalize l[k] = x at e0 e1 e2 e3 HB
              unfold Row.v at HB
              go_wp2_with fail
              go_quiet_grown (first | (go_at_call 43; refine Calls.grown_of (HB.out _)))
              go_wp2_with fail
              go_roundw
              case rel => exact ⟨k + 1, by omega, by go_num, HI2, Lib.hid (hS.out.new_ (Grown.keep ⟨_, _, rfl⟩))⟩
              case measure => simp [intOf]; omega
          · obtain rfl : k = l.length := by omega
            have hlz2 : ¬ (l.length : Int) < (l.length : Int) := by omega
            have hgd : decide ((l.length : Int) < (l.length : Int)) = false := decide_eq_false hlz2
            have HI2 := Lib.hid (insR_at r l l.length hk (fun j h _ => hI.out j h h) (fun h => by omega))
            clear hI
            go_wp2_with fail
            go_quiet (fail)
            go_wp2_with fail
            go_meet
            case rel => exact ⟨l.length, rfl, Nat.le_refl _, HI2, Lib.hid (hS.out.new_ ((Keep.refl No _).drewN _))⟩
      case rest =>
        clear H1
        obtain ⟨k, rfl, hk, HI, HS⟩ := hcut
        obtain ⟨A0, c0, eA, _, hR0⟩ := HS.out.rw_
        injection eA with eA _ ec
        subst eA
        subst ec
        have HR := Lib.hid hR0
        clear hR0
        have b0 := HS.out.bk.cell 0
        have b1 := HS.out.bk.cell 1
        have b2 := HS.out.bk.cell 2
        have b3 := HS.out.bk.cell 3
        simp only [List.getElem?_toArray, List.getElem?_cons_zero, List.getElem?_cons_succ] at b0 b1 b2 b3
        have htk : (l.take k).length = k := by rw [List.length_take]; omega
        have HTK := Lib.hid htk
        clear htk
        have hkz : (0 : Int) ≤ (k : Int) := by omega
        have hkl : (k : Int) ≤ (l.length : Int) := by omega
        go_upto_region 10 with (at_builtin; refine wpList_append_any _ rfl (.tmp 33) (.tmp 36) _ rfl w.heap.size 33 i0 _ 4 32 Try.underlying22 hi0 hz0 hz1 hz2 rfl (by omega) _ 0 [] rfl (own_empty _ 4 HS.out.kp.size) base A k c (rcells (l.take k)) rfl (Reads.new_ (rrows_take HR.out hk) ((Keep.refl No _).alloc _)) (rcells_one _) (by simp only [maxLen]; omega) (by omega) (by have := HS.out.kp.size; simp; omega) ?_; intro v2 w2 hown2 hg2 _; have H2 := Lib.hid (show ROwn w.heap.size w2 v2 (l.take k) ∧ Keep No wc w2 from ⟨by unfold ROwn; rw [HTK.out]; simpa using hown2, ((Keep.refl No wc).alloc _).grown hg2 (fun k e => .inr (by cases e; exact Nat.le_refl _))⟩); clear hown2 hg2)
        have HS2 := Lib.hid (HS.out.new_ H2.out.2)
        have b0 := HS2.out.bk.cell 0
        have b1 := HS2.out.bk.cell 1
        have b2 := HS2.out.bk.cell 2
        have b3 := HS2.out.bk.cell 3
        simp only [List.getElem?_toArray, List.getElem?_cons_zero, List.getElem?_cons_succ] at b0 b1 b2 b3
        have HO2 := Lib.hid (show w2.ownsRow w.heap.size 33 4 v2 k (rcells (l.take k)) from by have := H2.out.1; unfold ROwn at this; rwa [HTK.out] at this)
        go_upto_region 11 with (at_builtin; refine wpList_append_any _ rfl (.tmp 38) (.tmp 40) _ rfl w.heap.size 33 i0 _ 4 32 Try.underlying22 hi0 hz0 hz1 hz2 rfl (by omega) _ k _ rfl (own_keep HO2.out ((Keep.refl No _).alloc _) (fun _ _ x => x)) 0 _ 1 1 r.cells rfl (row_new r) (row_one r) (by simp only [maxLen]; omega) (by omega) (by have := HS2.out.kp.size; simp; omega) ?_; intro v3 w3 hown3 hg3 _; have H3 := Lib.hid (show w3.ownsRow w.heap.size 33 4 v3 (k + 1) (rcells (l.take k ++ [r])) ∧ Keep (fun b => v2.ownBlock = some b) w2 w3 from ⟨by rw [← rcells_push]; exact hown3, ((Keep.refl _ w2).alloc _).grown hg3 (fun k e => .inl e)⟩); clear hown3 hg3)
        have HK3 := Lib.hid (show Keep No w w3 from HS2.out.kp.trans H3.out.2 (fun b e => .inr (H2.out.1.lt b e).1))
        have HR3 := Lib.hid (H00.out.new_ HK3.out)
        go_wp2_with (at_builtin; refine wpList_append_any _ rfl (.tmp 42) (.tmp 45) _ rfl w.heap.size 33 i0 _ 4 32 Try.underlying22 hi0 hz0 hz1 hz2 rfl (by omega) _ (k + 1) _ rfl H3.out.1 base _ (l.length - k) (c - k) (rcells (l.drop k)) rfl (rrows_drop HR3.out hk hc) (rcells_one _) (by simp only [maxLen]; omega) (by omega) HK3.out.size ?_; intro v4 w4 hown4 hg4 _; have H4 := Lib.hid (show ROwn w.heap.size w4 v4 (insR r l) ∧ Keep No w w4 from ⟨insR_own HI.out hk hown4, HK3.out.trans ((Keep.refl _ w3).grown hg4 (fun k e => .inl e)) (fun b e => .inr (World.ownsRow.lt H3.out.1 b e).1)⟩); clear hown4 hg4)
        all_goals
          go_ret2
          exact ⟨_, rfl, H4.out.1.rin, H4.out.2⟩
  · rw [decide_eq_false hr] at HA
    rw [if_neg hr, if_neg hr]
    go_enter Try.func28, Try.ntmps28
    go_wp2_with fail
    generalize w.alloc (.cells #[.int .i64 r.a, .int .i64 r.b, .int .i64 r.c, .int .i64 r.l] 33) = w0 at *
    unfold Row.v at HA
    refine (HA.out w0).mono ?_
    rintro e w1 ⟨rfl, k1⟩
    have H1 := Lib.hid (H0.out.new_ k1)
    clear k1
    go_wp2_with fail
    go_ret2
    exact ⟨_, rfl, H1.out.rw_, H1.out.kp⟩

/-- Rows, learned one after another. -/
def sortL (l : List Row) : List Row := l.foldl learnL []
theorem insR_length (r : Row) : ∀ l : List Row, (insR r l).length = l.length + 1
  | [] => rfl
  | x :: l => by
    rw [insR]
    split
    · rfl
    · rw [List.length_cons, insR_length r l, List.length_cons]
theorem learnL_length (l : List Row) (r : Row) : (learnL l r).length ≤ l.length + 1 := by
  unfold learnL
  split
  · split
    · omega
    · rw [insR_length]; omega
  · omega
theorem sortL_push (l : List Row) (r : Row) : sortL (l ++ [r]) = learnL (sortL l) r := by simp [sortL]
theorem sortL_length : ∀ (l : List Row) (acc : List Row), (l.foldl learnL acc).length ≤ acc.length + l.length
  | [], _ => Nat.le_refl _
  | r :: l, acc => by
    have h1 := sortL_length l (learnL acc r)
    have h2 := learnL_length acc r
    rw [List.foldl_cons, List.length_cons]
    omega
theorem RIn.nil (base : Nat) (w : World) : RIn base w (.slice none 0 0) [] := ⟨none, 0, rfl, Nat.le_refl _, Reads.none_⟩

set_option maxHeartbeats 1000000 in
set_option maxRecDepth 100000 in
theorem rsorted_any {base : Nat} {w : World} {v : Value} {l : List Row} (h : RIn base w v l) (hb : base ≤ w.heap.size) (hmax : l.length ≤ 1000000) :
    Calls Try.prog 22 #[v] w fun e w' => ∃ v', e = .returned v' ∧ RIn base w' v' (sortL l) ∧ Keep No w w' := by
  obtain ⟨A, c, rfl, hc, hR⟩ := h
  have HR := Lib.hid hR
  clear hR
  go_enter Try.func22, Try.ntmps22
  go_wp2_with fail
  go_loopw [3, 4] (fun v3 v4 wr => ∃ k : Nat, k ≤ l.length ∧ v4 = .int .i64 k ∧ Hid (RIn base wr v3 (sortL (l.take k))) ∧ Hid (Keep No w wr)) (fun _ i _ => l.length - (intOf i).toNat)
  case atStart => exact ⟨0, Nat.zero_le _, rfl, Lib.hid (RIn.nil _ _), Lib.hid (Keep.refl _ _)⟩
  case round =>
    obtain ⟨k, hk, rfl, hS, hK⟩ := hrel
    by_cases hlt : k < l.length
    · obtain ⟨ad, rfl, _, e0, e1, e2, e3⟩ := (HR.out.new_ hK.out).at_ hlt
      have hex := Lib.hid (show sortL (l.take (k + 1)) = learnL (sortL (l.take k)) l[k] from by rw [← sortL_push, List.take_append_getElem hlt])
      have j0 : (0 : Int) ≤ (k : Int) := by omega
      have j1 : (k : Int) < (l.length : Int) := by omega
      have HL := Lib.hid (rlearn_any l[k] hS.out (Nat.le_trans hb hK.out.size) (by have := sortL_length (l.take k) []; unfold sortL; simp at this; omega))
      generalize l[k] = r at *
      unfold Row.v at HL
      by_cases hz : learnE (sortL (l.take k)) r = 0
      · have hzb : (learnE (sortL (l.take k)) r == 0) = true := by simp [hz]
        generalize learnE (sortL (l.take k)) r = en at *
        clear hz
        go_wp2_with (go_at_call 28; refine HL.out.mono ?_; rintro e w2 ⟨v2, rfl, h2, hk2⟩; have H2 := Lib.hid (show _ ∧ _ from ⟨h2, hk2⟩); clear h2 hk2)
        go_roundw
        case rel => exact ⟨k + 1, by omega, by go_num, Lib.hid (by rw [hex.out]; exact H2.out.1), Lib.hid (hK.out.trans H2.out.2 (fun _ x => x.elim))⟩
        case measure => simp [intOf]; omega
      · have hzb : (learnE (sortL (l.take k)) r == 0) = false := by rw [beq_eq_false_iff_ne]; exact hz
        have HN := Lib.hid (show learnL (sortL (l.take k)) r = sortL (l.take k) from by
          unfold learnE at hz
          unfold learnL
          split
          · next h1 =>
            rw [if_pos h1] at hz
            split
            · rfl
            · next h2 => rw [if_neg h2] at hz; exact absurd rfl hz
          · rfl)
        generalize learnE (sortL (l.take k)) r = en at *
        clear hz
        go_wp2_with (go_at_call 28; refine HL.out.mono ?_; rintro e w2 ⟨v2, rfl, h2, hk2⟩; have H2 := Lib.hid (show _ ∧ _ from ⟨h2, hk2⟩); clear h2 hk2)
        go_roundw
        case rel => exact ⟨k + 1, by omega, by go_num, Lib.hid (by rw [hex.out, HN.out]; exact hS.out.new_ H2.out.2), Lib.hid (hK.out.trans H2.out.2 (fun _ x => x.elim))⟩
        case measure => simp [intOf]; omega
    · obtain rfl : k = l.length := by omega
      have j1 : (l.length : Int) ≤ (l.length : Int) := Int.le_refl _
      rw [List.take_length] at hS
      have HS := Lib.hid hS.out
      clear hS
      go_wp2_with fail
      go_ret
      exact ⟨_, rfl, HS.out, hK.out⟩
end Go.Proofs.Ytgabidgpngiecaa
