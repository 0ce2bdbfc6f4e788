/- LearnForgets: operations opened, what it holds, its walk. Conditions: each names its own. -/
import Derived.Test.YtgabidgpngiecaaFU0
import Derived.Test.YtgabidgpngiecaaLX0
namespace Go.Proofs.Ytgabidgpngiecaa
open Go.RowKit Go.Proofs.YtgabidgpngiecaaKit Go.Proofs.YtgabidgpngiecaaPlain

/-- An operation. -/
structure Opn where
  r : Row
  gone : Bool
def Opn.cells (o : Opn) : List Value := [.int .i64 o.r.a, .int .i64 o.r.b, .int .i64 o.r.c, .int .i64 o.r.l, .bool o.gone]
def ocells (l : List Opn) : List Value := (l.map Opn.cells).flatten
def OpsIn (base : Nat) (w : World) (A : Option Addr) (l : List Opn) : Prop := Reads base w 70 5 A l.length (ocells l)
theorem cells_opn : Try.prog.cellsOf 70 = 5 := by kernel_rfl
theorem cells_bool1 : Try.prog.cellsOf 4 = 1 := by kernel_rfl
theorem ocells_get : ∀ (l : List Opn) (k : Nat) (hk : k < l.length) (j : Nat) (u : Value), l[k].cells[j]? = some u → (ocells l)[k * 5 + j]? = some u
  | [], k, hk, _, _, _ => absurd hk (by simp)
  | q :: l, 0, _, j, u, hu => by
    unfold ocells
    rw [List.map_cons, List.flatten_cons, Nat.zero_mul, Nat.zero_add, List.getElem?_append_left]
    · exact hu
    · exact (List.getElem?_eq_some_iff.1 hu).1
  | q :: l, k + 1, hk, j, u, hu => by
    have ih := ocells_get l k (by simpa using hk) j u (by simpa using hu)
    unfold ocells at ih ⊢
    rw [List.map_cons, List.flatten_cons, List.getElem?_append_right (by rw [show q.cells.length = 5 from rfl]; omega), show q.cells.length = 5 from rfl, show (k + 1) * 5 + j - 5 = k * 5 + j from by omega]
    exact ih
theorem OpsIn.cells {base : Nat} {w : World} {A : Option Addr} {l : List Opn} (h : OpsIn base w A l) {k : Nat} (hk : k < l.length) : ∃ ad, A = some ad ∧ w.cell? (ad.add (k * 5)) = some (.int .i64 l[k].r.a) ∧ w.cell? ⟨(ad.add (k * 5)).block, (ad.add (k * 5)).off + 1, none⟩ = some (.int .i64 l[k].r.b) ∧ w.cell? ⟨(ad.add (k * 5)).block, (ad.add (k * 5)).off + 2, none⟩ = some (.int .i64 l[k].r.c) ∧
    w.cell? ⟨(ad.add (k * 5)).block, (ad.add (k * 5)).off + 3, none⟩ = some (.int .i64 l[k].r.l) ∧ w.cell? ⟨(ad.add (k * 5)).block, (ad.add (k * 5)).off + 4, none⟩ = some (.bool l[k].gone) := by
  obtain ⟨ad, hA, _, hc0⟩ := h.2 (by omega)
  have hc : ∀ j u, j < 5 → l[k].cells[j]? = some u → w.cell? (ad.add (k * 5 + j)) = some u := fun j u _ hu => hc0 _ u (ocells_get l k hk j u hu)
  refine ⟨ad, hA, hc 0 _ (by omega) rfl, ?_, ?_, ?_, ?_⟩
  · rw [add_field ad (k * 5) 1 (by omega)]; exact hc 1 _ (by omega) rfl
  · rw [add_field ad (k * 5) 2 (by omega)]; exact hc 2 _ (by omega) rfl
  · rw [add_field ad (k * 5) 3 (by omega)]; exact hc 3 _ (by omega) rfl
  · rw [add_field ad (k * 5) 4 (by omega)]; exact hc 4 _ (by omega) rfl
end Go.Proofs.Ytgabidgpngiecaa
namespace Go.Proofs.YtgabidgpngiecaaOpen
open Go.RowKit Go.Proofs.YtgabidgpngiecaaKit Go.Proofs.YtgabidgpngiecaaPlain Go.Proofs.Ytgabidgpngiecaa Go.ChangeShapes Go.WideShapes Go.ChangeAt Go.Deep

section
variable {H : Type} {enc : TypeId × Value → H} {w : World} {base : Nat} {spare : Nat → Bool} {held : Bool}
theorem list5 {cs : List Value} (h : cs.length = 5) : ∃ a b c d e, cs = [a, b, c, d, e] := by
  match cs, h with
  | [a, b, c, d, e], _ => exact ⟨a, b, c, d, e, rfl⟩
theorem bool_one {fuel : Nat} {v : Value} {x : DataW H × List MemPlace} (h : DataW.trod enc Try.prog w base spare held fuel 4 [v] = some x) : ∃ b : Bool, v = .bool b := by
  obtain ⟨n, e, _⟩ := DataW.trod_bool Try.underlying4 h
  simp at e
  exact ⟨n, e⟩
set_option maxRecDepth 100000 in
theorem opn_open {fuel : Nat} {cs : List Value} {x : DataW H × List MemPlace} (hl : cs.length = 5) (h : DataW.trod enc Try.prog w base spare held fuel 70 cs = some x) : ∃ q : Opn, cs = q.cells := by
  obtain ⟨v0, v1, v2, v3, v4, rfl⟩ := list5 hl
  obtain ⟨xs, n, _, _, _, hx, hf⟩ := DataW.trod_struct Try.underlying70 h
  have g0 : DataW.trod enc Try.prog w base spare held n 33 ((([v0, v1, v2, v3, v4] : List Value).drop 0).take (Try.prog.cellsOf 33)) = xs[0]? := hf 0 _ rfl
  have g1 : DataW.trod enc Try.prog w base spare held n 4 ((([v0, v1, v2, v3, v4] : List Value).drop 4).take (Try.prog.cellsOf 4)) = xs[1]? := hf 1 _ rfl
  obtain ⟨y0, e0⟩ := some_of (l := xs) (i := 0) (by rw [hx]; decide)
  obtain ⟨y1, e1⟩ := some_of (l := xs) (i := 1) (by rw [hx]; decide)
  rw [e0] at g0
  rw [e1] at g1
  rw [cells_row, show (([v0, v1, v2, v3, v4] : List Value).drop 0).take 4 = [v0, v1, v2, v3] from rfl] at g0
  rw [cells_bool1] at g1
  have g1 : DataW.trod enc Try.prog w base spare held n 4 [v4] = some y1 := g1
  obtain ⟨r, er⟩ := row_open rfl g0
  obtain ⟨b, rfl⟩ := bool_one g1
  unfold Row.cells at er
  injection er with z0 er
  injection er with z1 er
  injection er with z2 er
  injection er with z3 er
  subst z0 z1 z2 z3
  exact ⟨⟨r, b⟩, rfl⟩
theorem flat_ops {l : List Opn} : ∀ {xs : List Value}, Flat (fun (q : Opn) cs => cs = q.cells) 5 l xs → xs = ocells l := by
  induction l with
  | nil => intro xs h; exact h
  | cons r l ih =>
    rintro xs ⟨cs, ys, rfl, _, hr, ht⟩
    have e := ih ht
    have hr' : cs = r.cells := hr
    rw [e, hr']
    unfold ocells
    rw [List.map_cons, List.flatten_cons]
theorem ops_open {fuel : Nat} {v : Value} {x : DataW H × List MemPlace} (h : DataW.trod enc Try.prog w base spare held fuel 68 [v] = some x) : ∃ A c l, v = .slice A l.length c ∧ Go.Proofs.Ytgabidgpngiecaa.OpsIn w.heap.size w A l := by
  obtain ⟨A, n, c, l, rfl, _, _, hr⟩ := trod_recs (R := fun _ (q : Opn) cs => cs = q.cells) Try.underlying68 rfl cells_opn (by omega) (fun _ _ _ hl h => opn_open hl h) h
  have hn := Recs.len (by omega) hr
  obtain ⟨xs, h1, h2⟩ := hr
  obtain rfl := flat_ops h2
  subst hn
  exact ⟨A, c, l, rfl, h1⟩
end
end Go.Proofs.YtgabidgpngiecaaOpen

namespace Go.Proofs.Ytgabidgpngiecaa
open Go.RowKit Go.Proofs.YtgabidgpngiecaaKit Go.Proofs.YtgabidgpngiecaaPlain

/-- Two models, and rows. -/
structure FgS (w W : World) (mb b nm nb : Nat) (v : Value) (R L D : List Row) : Prop where
  m : Mdl w.heap.size W mb b R
  n : Mdl w.heap.size W nm nb D
  rw_ : RIn w.heap.size W v L
  kp : Keep No w W
  ne : mb ≠ nm ∧ mb ≠ nb ∧ b ≠ nm ∧ b ≠ nb
section
variable {w W W' : World} {mb b nm nb : Nat} {v v' : Value} {R R' L L' D D' : List Row}
theorem FgS.new_ (h : FgS w W mb b nm nb v R L D) (hk : Keep No W W') : FgS w W' mb b nm nb v R L D := ⟨h.m.new_ hk, h.n.new_ hk, h.rw_.new_ hk, h.kp.trans hk (fun _ x => x.elim), h.ne⟩
theorem FgS.onm (h : FgS w W mb b nm nb v R L D) (hm : Mdl w.heap.size W' mb b R') (hk : Keep (fun x => x = mb ∨ x = b) W W') : FgS w W' mb b nm nb v R' L D :=
  ⟨hm, h.n.keep hk (fun e => e.elim (fun e => h.ne.1 e.symm) (fun e => h.ne.2.2.1 e.symm)) (fun e => e.elim (fun e => h.ne.2.1 e.symm) (fun e => h.ne.2.2.2 e.symm)), h.rw_.mdl h.m hk, h.kp.trans hk (fun x e => .inr (by rcases e with e | e <;> (subst e; first | exact h.m.ge.1 | exact h.m.ge.2))), h.ne⟩
theorem FgS.onn (h : FgS w W mb b nm nb v R L D) (hn : Mdl w.heap.size W' nm nb D') (hk : Keep (fun x => x = nm ∨ x = nb) W W') : FgS w W' mb b nm nb v R L D' :=
  ⟨h.m.keep hk (fun e => e.elim h.ne.1 h.ne.2.1) (fun e => e.elim h.ne.2.2.1 h.ne.2.2.2), hn, h.rw_.mdl h.n hk, h.kp.trans hk (fun x e => .inr (by rcases e with e | e <;> (subst e; first | exact h.n.ge.1 | exact h.n.ge.2))), h.ne⟩
theorem FgS.rows (h : FgS w W mb b nm nb v R L D) (hr : RIn w.heap.size W' v' L') (hk : Keep No W W') : FgS w W' mb b nm nb v' R L' D := ⟨h.m.new_ hk, h.n.new_ hk, hr, h.kp.trans hk (fun _ x => x.elim), h.ne⟩
end
theorem unlL_length (l : List Row) (r : Row) : (unlL l r).length ≤ l.length := by
  unfold unlL
  split
  · exact List.length_erase_le
  · exact Nat.le_refl _
/-- The rows as they are learned anew. -/
def turnL (t : Bool) (l : List Row) : List Row := if t then l.reverse else l
theorem turnL_length (t : Bool) (l : List Row) : (turnL t l).length = l.length := by cases t <;> simp [turnL]
theorem turnL_perm (t : Bool) (l : List Row) : (turnL t l).Perm l := by
  cases t
  · exact List.Perm.refl _
  · exact List.reverse_perm l
theorem take_more (l : List Row) (i : Nat) (h : i < l.length) : (l[i] :: l.take i).Perm (l.take (i + 1)) := by
  rw [← List.take_append_getElem h]
  exact (List.perm_append_comm (l₁ := [l[i]]) (l₂ := l.take i))

set_option maxHeartbeats 4000000 in
set_option maxRecDepth 100000 in
theorem learnForgets_walk {base : Nat} {w : World} {A Aq : Option Addr} {c cq : Nat} {ops : List Opn} {qs : List Que} (t : Bool) (h : OpsIn base w A ops) (hq : AsksIn base w Aq qs) (hqk : ∀ q ∈ qs, q.k < 9223372036854775808) :
    Calls Try.prog 9 #[.slice A ops.length c, .slice Aq qs.length cq, .bool t] w fun e w' => e = .returned (.bool true) ∧ Keep No w w' := by
  have HP := Lib.hid h
  have HQ := Lib.hid (show _ ∧ _ from ⟨hq, hqk⟩)
  clear h hq hqk
  go_enter Try.func9, Try.ntmps9
  go_wp2_with fail
  refine (new_any w).mono ?_
  rintro e w1 ⟨rfl, hw1⟩
  have hK1 : Keep No w w1 := hw1 ▸ ((Keep.refl No w).alloc _).alloc _
  have hM1 : Mdl w.heap.size w1 (w.heap.size + 1) w.heap.size [] := hw1 ▸ Mdl.made (Nat.le_refl _)
  have hS1 : w1.heap.size = w.heap.size + 1 + 1 := by rw [hw1]; simp
  have HM1 := Lib.hid (show _ ∧ _ ∧ _ from ⟨hK1, hM1, hS1⟩)
  clear hw1 hK1 hM1 hS1
  go_wp2_with fail
  refine (new_any w1).mono ?_
  rintro e w2 ⟨rfl, hw2⟩
  have hK2 : Keep No w1 w2 := hw2 ▸ ((Keep.refl No w1).alloc _).alloc _
  have hM2 : Mdl w.heap.size w2 (w1.heap.size + 1) w1.heap.size [] := hw2 ▸ Mdl.made HM1.out.1.size
  have HS0 := Lib.hid (show FgS w w2 (w.heap.size + 1) w.heap.size (w1.heap.size + 1) w1.heap.size (.slice none 0 0) [] [] [] from
    ⟨HM1.out.2.1.new_ hK2, hM2, ⟨none, 0, rfl, Nat.le_refl _, Reads.none_⟩, HM1.out.1.trans hK2 (fun _ x => x.elim), by have := HM1.out.2.2; omega⟩)
  clear hw2 hK2 hM2 HM1
  generalize w.heap.size + 1 = mb at *
  generalize w1.heap.size + 1 = nm at *
  generalize w1.heap.size = nb at *
  have HAl := Lib.hid (fun W => alive_any W)
  by_cases h300 : 300 < ops.length
  · have hd : decide ((300 : Int) < (ops.length : Int)) = true := decide_eq_true (by omega)
    have hd' : decide (300 < ops.length) = true := decide_eq_true h300
    clear h300
    go_wp2_with fail
    refine (HAl.out _).mono ?_
    rintro e w3 ⟨rfl, hk3⟩
    have HK3 := Lib.hid (HS0.out.kp.trans hk3 (fun _ x => x.elim))
    clear hk3
    go_wp2_with fail
    go_ret
    exact ⟨rfl, HK3.out⟩
  have he : decide ((300 : Int) < (ops.length : Int)) = false := decide_eq_false (by omega)
  have he' : decide (300 < ops.length) = false := decide_eq_false h300
  have HOL := Lib.hid h300
  clear h300
  by_cases h10 : 10 < qs.length
  · have hd : decide ((10 : Int) < (qs.length : Int)) = true := decide_eq_true (by omega)
    have hd' : decide (10 < qs.length) = true := decide_eq_true h10
    clear h10
    go_wp2_with fail
    refine (HAl.out _).mono ?_
    rintro e w3 ⟨rfl, hk3⟩
    have HK3 := Lib.hid (HS0.out.kp.trans hk3 (fun _ x => x.elim))
    clear hk3
    go_wp2_with fail
    go_ret
    exact ⟨rfl, HK3.out⟩
  have hd : decide ((10 : Int) < (qs.length : Int)) = false := decide_eq_false (by omega)
  have hd' : decide (10 < qs.length) = false := decide_eq_false h10
  have HQL := Lib.hid h10
  clear h10
  go_wp2_with fail
  clear hd hd' he he'
  go_loopg [9, 45] ops.length (fun kx s9 s45 wr => ∃ (k : Nat) (L : List Row), s45 = .int .i64 k ∧ k ≤ ops.length ∧ ops.length ≤ k + kx ∧ L.length ≤ k ∧ Hid (FgS w wr mb w.heap.size nm nb s9 L L []))
  case atStart => exact ⟨0, [], rfl, Nat.zero_le _, by omega, Nat.le_refl _, HS0⟩
  case round =>
    clear HS0
    obtain ⟨k, L, rfl, hk, hkx, hLk, HS⟩ := hrel
    have j0 : (0 : Int) ≤ (k : Int) := by omega
    by_cases hlt : k < ops.length
    · have j1 : (k : Int) < (ops.length : Int) := by omega
      have hgd : decide ((k : Int) < (ops.length : Int)) = true := decide_eq_true j1
      obtain ⟨ad, hA, e0, e1, e2, e3, e4⟩ := OpsIn.cells (show OpsIn base wr A ops from Reads.new_ HP.out HS.out.kp) hlt
      subst hA
      have hk3 : k < 300 := by have := HOL.out; omega
      have hL3 : L.length ≤ 300 := by omega
      generalize ops[k] = o at *
      obtain ⟨r, gn⟩ := o
      dsimp only at e0 e1 e2 e3 e4
      have HB := Lib.hid (Blk.new wr 70 #[.int .i64 r.a, .int .i64 r.b, .int .i64 r.c, .int .i64 r.l, .bool gn])
      have ka := (Keep.refl No wr).alloc (.cells #[.int .i64 r.a, .int .i64 r.b, .int .i64 r.c, .int .i64 r.l, .bool gn] 70)
      have HS2 := Lib.hid (HS.out.new_ ka)
      clear ka
      cases gn
      · have HLL := Lib.hid (show (learnL L r).length ≤ k + 1 from Nat.le_trans (learnL_length L r) (by omega))
        have HU := Lib.hid (mlearn_any r HS2.out.m)
        unfold Row.v at HU
        go_wp2_with fail
        refine HU.out.mono ?_
        rintro e w5 ⟨rfl, hm5, hk5⟩
        have HS5 := Lib.hid (HS2.out.onm hm5 hk5)
        have HB5 := Lib.hid (HB.out.keep hk5 (fun e => e.elim (fun e => absurd HS.out.m.lt.1 (by omega)) (fun e => absurd HS.out.m.lt.2 (by omega))))
        have b0 := HB5.out.cell 0
        have b1 := HB5.out.cell 1
        have b2 := HB5.out.cell 2
        have b3 := HB5.out.cell 3
        simp only [List.getElem?_toArray, List.getElem?_cons_zero, List.getElem?_cons_succ] at b0 b1 b2 b3
        have HR := Lib.hid (rlearn_any r HS5.out.rw_ HS5.out.kp.size (by omega))
        unfold Row.v at HR
        clear hm5 hk5 HU HS2 HB HB5 HS e0 e1 e2 e3 e4
        go_wp2_with fail
        refine HR.out.mono ?_
        rintro e w6 ⟨v6, rfl, hr6, hk6⟩
        have HS6 := Lib.hid (HS5.out.rows hr6 hk6)
        clear b0 b1 b2 b3 hr6 hk6 HR HS5
        go_wp2_with fail
        go_roundg (ops.length - (k + 1))
        case measure => omega
        case rel => exact ⟨k + 1, learnL L r, by go_num, by omega, by omega, HLL.out, HS6⟩
      · have HLL := Lib.hid (show (unlL L r).length ≤ k + 1 from Nat.le_trans (unlL_length L r) (by omega))
        have HU := Lib.hid (munlearn_any r HS2.out.m)
        unfold Row.v at HU
        go_wp2_with fail
        refine HU.out.mono ?_
        rintro e w5 ⟨rfl, hm5, hk5⟩
        have HS5 := Lib.hid (HS2.out.onm hm5 hk5)
        have HB5 := Lib.hid (HB.out.keep hk5 (fun e => e.elim (fun e => absurd HS.out.m.lt.1 (by omega)) (fun e => absurd HS.out.m.lt.2 (by omega))))
        have b0 := HB5.out.cell 0
        have b1 := HB5.out.cell 1
        have b2 := HB5.out.cell 2
        have b3 := HB5.out.cell 3
        simp only [List.getElem?_toArray, List.getElem?_cons_zero, List.getElem?_cons_succ] at b0 b1 b2 b3
        have HR := Lib.hid (runlearn_any r HS5.out.rw_ HS2.out.m.okay (by omega))
        unfold Row.v at HR
        clear hm5 hk5 HU HS2 HB HB5 HS e0 e1 e2 e3 e4
        go_wp2_with fail
        refine HR.out.mono ?_
        rintro e w6 ⟨v6, rfl, hr6, hk6⟩
        have HS6 := Lib.hid (HS5.out.rows hr6 hk6)
        clear b0 b1 b2 b3 hr6 hk6 HR HS5
        go_wp2_with fail
        go_roundg (ops.length - (k + 1))
        case measure => omega
        case rel => exact ⟨k + 1, unlL L r, by go_num, by omega, by omega, HLL.out, HS6⟩
    · obtain rfl : k = ops.length := by omega
      have hgd : decide ((ops.length : Int) < (ops.length : Int)) = false := decide_eq_false (by omega)
      have hL3 : L.length ≤ 300 := by have := HOL.out; omega
      obtain ⟨A9, c9, e9, hc9, _⟩ := HS.out.rw_
      subst e9
      have HS2 := Lib.hid (show FgS w wr mb w.heap.size nm nb (.slice A9 L.length c9) L L ((turnL t L).take 0) from HS.out)
      have HL3 := Lib.hid hL3
      clear HS
      go_wp2_with fail
      go_loopg [76] L.length (fun ky s76 wr => ∃ i : Nat, s76 = .int .i64 i ∧ i ≤ L.length ∧ L.length ≤ i + ky ∧ Hid (FgS w wr mb w.heap.size nm nb (.slice A9 L.length c9) L L ((turnL t L).take i)))
      case atStart => exact ⟨0, rfl, Nat.zero_le _, by omega, HS2⟩
      case round =>
        clear HS2
        obtain ⟨i, rfl, hi, hiy, HS⟩ := hrel
        have j0 : (0 : Int) ≤ (i : Int) := by omega
        by_cases hlt : i < L.length
        · have j1 : (i : Int) < (L.length : Int) := by omega
          have hgd2 : decide ((i : Int) < (L.length : Int)) = true := decide_eq_true j1
          obtain ⟨A, c, eA, _, hR⟩ := HS.out.rw_
          injection eA with eA _ ec
          subst eA
          subst ec
          have htl : ((turnL t L).take i).length ≤ 300 := by rw [List.length_take]; omega
          cases t with
          | false =>
            obtain ⟨ad, rfl, _, e0, e1, e2, e3⟩ := hR.at_ hlt
            have hok := HS.out.m.okay _ (List.getElem_mem hlt)
            have hT : (L[i] :: (turnL false L).take i).Perm ((turnL false L).take (i + 1)) := take_more (turnL false L) i hlt
            obtain ⟨r, hr⟩ : ∃ r, r = L[i] := ⟨_, rfl⟩
            rw [← hr] at e0 e1 e2 e3 hok hT
            have HS2 := Lib.hid (HS.out.new_ ((Keep.refl No wr).alloc (.cells #[.int .i64 r.a, .int .i64 r.b, .int .i64 r.c, .int .i64 r.l] 33)))
            have HL := Lib.hid (learn_yes r HS2.out.n hok (by omega))
            have HF := Lib.hid (fun W' (hn : Mdl w.heap.size W' nm nb (r :: (turnL false L).take i)) hk => HS2.out.onn (W' := W') (hn.perm hT) hk)
            clear hr hT hR
            unfold Row.v at HL
            clear hok HS2 HS
            go_wp2_with fail
            refine HL.out.mono ?_
            rintro e w5 ⟨rfl, hn5, hk5⟩
            have HS5 := Lib.hid (HF.out w5 hn5 hk5)
            clear hn5 hk5 HL HF e0 e1 e2 e3
            go_wp2_with fail
            go_roundg (L.length - (i + 1))
            case measure => omega
            case rel => exact ⟨i + 1, by go_num, by omega, by omega, HS5⟩
          | true =>
            obtain ⟨j, hj⟩ : ∃ j : Nat, j = L.length - 1 - i := ⟨_, rfl⟩
            have hjl : j < L.length := by omega
            have hz : (L.length : Int) - 1 - (i : Int) = (j : Int) := by omega
            have hz0 : (0 : Int) ≤ (j : Int) := by omega
            have hz1 : (j : Int) < (L.length : Int) := by omega
            obtain ⟨ad, hA, _, e0, e1, e2, e3⟩ := hR.at_ hlt
            obtain ⟨ad', hA', _, f0, f1, f2, f3⟩ := hR.at_ hjl
            obtain rfl : ad = ad' := Option.some.inj (hA.symm.trans hA')
            subst hA
            have hok := HS.out.m.okay _ (List.getElem_mem hjl)
            have hT : (L[j] :: (turnL true L).take i).Perm ((turnL true L).take (i + 1)) := by
              have h1 := take_more (turnL true L) i (by rw [turnL_length]; exact hlt)
              have h2 : (turnL true L)[i]'(by rw [turnL_length]; exact hlt) = L[j] := by
                subst hj
                simp [turnL]
              rw [h2] at h1
              exact h1
            obtain ⟨r, hr⟩ : ∃ r, r = L[j] := ⟨_, rfl⟩
            rw [← hr] at f0 f1 f2 f3 hok hT
            generalize L[i] = r0 at *
            have HS2 := Lib.hid (HS.out.new_ ((Keep.refl No wr).alloc (.cells #[.int .i64 r.a, .int .i64 r.b, .int .i64 r.c, .int .i64 r.l] 33)))
            have HL := Lib.hid (learn_yes r HS2.out.n hok (by omega))
            have HF := Lib.hid (fun W' (hn : Mdl w.heap.size W' nm nb (r :: (turnL true L).take i)) hk => HS2.out.onn (W' := W') (hn.perm hT) hk)
            clear hr hT hR hA' hj
            unfold Row.v at HL
            clear hok HS2 HS
            go_wp2_with fail
            refine HL.out.mono ?_
            rintro e w5 ⟨rfl, hn5, hk5⟩
            have HS5 := Lib.hid (HF.out w5 hn5 hk5)
            clear hn5 hk5 HL HF e0 e1 e2 e3 f0 f1 f2 f3
            go_wp2_with fail
            go_roundg (L.length - (i + 1))
            case measure => omega
            case rel => exact ⟨i + 1, by go_num, by omega, by omega, HS5⟩
        · obtain rfl : i = L.length := by omega
          have hgd2 : decide ((L.length : Int) < (L.length : Int)) = false := decide_eq_false (by omega)
          have HEn := Lib.hid (show EqM w wr mb w.heap.size nm nb L (turnL t L) from ⟨HS.out.m, by have := HS.out.n; rwa [List.take_of_length_le (by rw [turnL_length]; exact Nat.le_refl _)] at this, turnL_perm t L, HS.out.kp⟩)
          clear HS
          generalize turnL t L = D at *
          go_wp2_with fail
          go_loopg [99] qs.length (fun ky s99 wr => ∃ k : Nat, s99 = .int .i64 k ∧ k ≤ qs.length ∧ qs.length ≤ k + ky ∧ Hid (EqM w wr mb w.heap.size nm nb L D))
          case atStart => exact ⟨0, rfl, Nat.zero_le _, by omega, HEn⟩
          case round =>
            clear HEn
            obtain ⟨k, rfl, hk, hky, HE⟩ := hrel
            by_cases hlt : k < qs.length
            · obtain ⟨ad, hA, e0, e1, e2, e3, e4, e5, e6, e7⟩ := AsksIn.cells (show AsksIn base wr Aq qs from Reads.new_ HQ.out.1 HE.out.kp) hlt
              subst hA
              have hqk := HQ.out.2 _ (List.getElem_mem hlt)
              generalize qs[k] = q at *
              have ka := (Keep.refl No wr).alloc (.cells #[.int .i64 q.x.a, .int .i64 q.x.b, .int .i64 q.x.c, .int .i64 q.k, .int .i64 q.by_, .int .i64 q.of_, .int .i64 q.deep, .int .i64 q.least] 64)
              have HE2 := Lib.hid (HE.out.new_ ka)
              have HEq := Lib.hid (equal_any HE2.out.m HE2.out.n HE2.out.pm.symm q.x q.k q.by_ q.of_ q.deep q.least hqk)
              unfold askV at HEq
              have j0 : (0 : Int) ≤ (k : Int) := by omega
              have j1 : (k : Int) < (qs.length : Int) := by omega
              have hk5 : k < 500 := by have := HQL.out; omega
              clear ka HE hqk
              go_wp2_with fail
              refine HEq.out.mono ?_
              rintro e w7 ⟨rfl, hk7⟩
              have HE7 := Lib.hid (HE2.out.new_ hk7)
              clear hk7 HE2 HEq e0 e1 e2 e3 e4 e5 e6 e7
              go_wp2_with fail
              go_roundg (qs.length - (k + 1))
              case measure => omega
              case rel => exact ⟨k + 1, by go_num, by omega, by omega, HE7⟩
            · obtain rfl : k = qs.length := by omega
              obtain ⟨L0, hc0, hp0⟩ := canon_exists HE.out.m
              have HIa := Lib.hid (fun W (hW : Keep No wr W) => image_str (HE.out.m.new_ hW) hc0 hp0)
              have HIb := Lib.hid (fun W (hW : Keep No wr W) => image_str (HE.out.n.new_ hW) hc0 (hp0.trans HE.out.pm.symm))
              have HLn := Lib.hid (fun W (hW : Keep No wr W) => mlen_any (HE.out.m.new_ hW))
              have HKW := Lib.hid HE.out.kp
              generalize imgL L0 = im at *
              clear hc0 hp0 HE
              go_wp2_with fail
              have K0 := Lib.hid ((Keep.refl No wr).drew)
              go_region_with (first
                | (go_at_call 12; refine (HAl.out _).mono ?_; rintro e w16 ⟨rfl, hkc⟩; have K5 := Lib.hid (K4.out.trans hkc (fun _ x => x.elim)); clear hkc)
                | (go_at_call 18; refine (HLn.out _ K4.out).mono ?_; rintro e w' ⟨rfl, rfl⟩)
                | (go_at_call 17; refine (HIb.out _ K3.out).mono ?_; rintro e w15 ⟨A6, n6, c6, rfl, hb6, hkc⟩; have hcv6 := Bytes.conv (P := Try.prog) hb6 c6 Try.underlying41 Try.underlying5 Try.underlying9; have hcv7 := Bytes.conv (P := Try.prog) (HB5.out.new_ hkc) c5 Try.underlying41 Try.underlying5 Try.underlying9; have K4 := Lib.hid (K3.out.trans hkc (fun _ x => x.elim)); clear hkc hb6)
                | (go_at_call 17; go_loud (refine (HIa.out _ K0.out).mono ?_; rintro e w14 ⟨A5, n5, c5, rfl, hb5, hkc⟩; have hcv5 := Bytes.conv (P := Try.prog) hb5 c5 Try.underlying41 Try.underlying5 Try.underlying9; have HB5 := Lib.hid hb5; have K3 := Lib.hid (K0.out.trans hkc (fun _ x => x.elim)); clear hkc hb5)))
              all_goals
                go_wp2_with fail
                go_ret
                exact ⟨rfl, HKW.out.trans K5.out (fun _ x => x.elim)⟩
end Go.Proofs.Ytgabidgpngiecaa
