/- Contracts of the stable sort's family: swapRange, rotate, symMerge, stable, SortStableFunc at a struct of 5 numbers (printed by stab.py). Conditions: each names its own. -/
import Derived.Test.YtgabidgpngiecaaGreatProg
import Derived.Test.YtgabidgpngiecaaGreatSP1
import Derived.Test.YtgabidgpngiecaaGreatK1
import Derived.Shelf.SlSortCmp.PdqK
import Derived.Deep.LoopGhost
import Derived.Deep.DeepCutAuto
namespace Go.Proofs.YtgabidgpngiecaaGreat
open Go.RowKit Go.Lib Go.Sort Go.Proofs Go.Proofs.YtgabidgpngiecaaGreatPlain
section
variable {α : Type} [Inhabited α] {enc : α → List Value} {w0 W : World} {blk : Nat} {d0 : Array α}
/-- An element's cells. -/
def AtE (W : World) (blk i : Nat) (v0 v1 v2 v3 v4 : Value) : Prop :=
  (W.cell? ⟨blk, i * 5, none⟩ = some v0 ∧ W.cell? ⟨blk, i * 5 + 1, none⟩ = some v1 ∧ W.cell? ⟨blk, i * 5 + 2, none⟩ = some v2 ∧ W.cell? ⟨blk, i * 5 + 3, none⟩ = some v3 ∧ W.cell? ⟨blk, i * 5 + 4, none⟩ = some v4) ∧
  (W.frozen? ⟨blk, i * 5, none⟩ = false ∧ W.frozen? ⟨blk, i * 5 + 1, none⟩ = false ∧ W.frozen? ⟨blk, i * 5 + 2, none⟩ = false ∧ W.frozen? ⟨blk, i * 5 + 3, none⟩ = false ∧ W.frozen? ⟨blk, i * 5 + 4, none⟩ = false)
theorem swk_cell {dk : Array α} (S : SWK enc 5 w0 blk 0 dk W) (R : RowK enc 5 w0 blk 0 d0) (hs : dk.size = d0.size) {i j : Nat} (hi : i < dk.size) (hj : j < 5) : W.cell? ⟨blk, i * 5 + j, none⟩ = some (enc dk[i]!)[j]! ∧ W.frozen? ⟨blk, i * 5 + j, none⟩ = false := by
  have h := S.holds R.hblk R.hH hs (i * 5 + j) (by rw [size_flatK]; omega)
  rw [Nat.zero_add, get_flatK _ _ _ _ (by omega), show (i * 5 + j) / 5 = i by omega, show (i * 5 + j) % 5 = j by omega] at h
  exact h
theorem swk_get {dk : Array α} (S : SWK enc 5 w0 blk 0 dk W) (R : RowK enc 5 w0 blk 0 d0) (hs : dk.size = d0.size) {i : Nat} (hi : i < dk.size) {v0 v1 v2 v3 v4 : Value} (he : enc dk[i]! = [v0, v1, v2, v3, v4]) : AtE W blk i v0 v1 v2 v3 v4 := by
  have h := fun j hj => swk_cell S R hs (i := i) (j := j) hi hj
  rw [he] at h
  exact ⟨⟨(h 0 (by omega)).1, (h 1 (by omega)).1, (h 2 (by omega)).1, (h 3 (by omega)).1, (h 4 (by omega)).1⟩, ⟨(h 0 (by omega)).2, (h 1 (by omega)).2, (h 2 (by omega)).2, (h 3 (by omega)).2, (h 4 (by omega)).2⟩⟩
/-- Two elements exchanged. -/
theorem swk_swap {A M B : List α} {x y : α} (S : SWK enc 5 w0 blk 0 (A ++ x :: (M ++ y :: B)).toArray W) (R : RowK enc 5 w0 blk 0 d0) {i j : Nat} (hi : i = A.length) (hj : j = A.length + 1 + M.length) :
    SWK enc 5 w0 blk 0 (A ++ y :: (M ++ x :: B)).toArray ((W.setCells blk (i * 5) (enc y)).setCells blk (j * 5) (enc x)).drew := by
  have h := (S.swap R.hk R.hblk i j (by simp; omega) (by simp; omega)).drew
  rw [swp_mid hi hj, at_mid' hi, show (A ++ x :: (M ++ y :: B)) = (A ++ x :: M) ++ y :: B by simp, at_mid' (by simp; omega), Nat.zero_add, Nat.zero_add] at h
  exact h
theorem swk_swap' {A M B : List α} {x y : α} (S : SWK enc 5 w0 blk 0 (A ++ x :: (M ++ y :: B)).toArray W) (R : RowK enc 5 w0 blk 0 d0) {i j : Nat} (hi : i = A.length) (hj : j = A.length + 1 + M.length) :
    SWK enc 5 w0 blk 0 (A ++ y :: (M ++ x :: B)).toArray ((W.setCells blk (j * 5) (enc x)).setCells blk (i * 5) (enc y)).drew := by
  have h := (S.swap R.hk R.hblk j i (by simp; omega) (by simp; omega)).drew
  rw [swp_mid' hi hj, at_mid' hi, show (A ++ x :: (M ++ y :: B)) = (A ++ x :: M) ++ y :: B by simp, at_mid' (by simp; omega), Nat.zero_add, Nat.zero_add] at h
  exact h
theorem idx_any (blk N cap q : Nat) (z : Int) (h1 : 0 ≤ z) (h2 : z < (N : Int)) (h3 : z.toNat = q) (W : World) :
   (Instr.indexAt 81 (.slice (some ⟨blk, 0, none⟩) N cap) (.int .i64 z)).run Tryz.prog W = .ok (.pointer (some ⟨blk, q * 5, none⟩)) W := by
  go_simp
def Nums (enc : α → List Value) : Prop := ∀ x, ∃ v0 v1 v2 v3 v4 : Int, enc x = [.int .i64 v0, .int .i64 v1, .int .i64 v2, .int .i64 v3, .int .i64 v4]

set_option maxHeartbeats 2000000 in
set_option maxRecDepth 1000000 in
theorem swapRange_any (hN : Nums enc) (R : RowK enc 5 w0 blk 0 d0) (A X M Y B : List α) (g : Nat) (cb : Array Value) (cap a b n : Nat) (ha : a = A.length) (hb : b = A.length + X.length + M.length) (hn : n = X.length) (hxy : X.length = Y.length) (hs : d0.size = (A ++ (X ++ (M ++ (Y ++ B)))).length) (hsz : d0.size < 4611686018427387904)
    (S : SWK enc 5 w0 blk 0 (A ++ (X ++ (M ++ (Y ++ B)))).toArray W) :
    Calls Tryz.prog 105 #[.slice (some ⟨blk, 0, none⟩) d0.size cap, .int .i64 a, .int .i64 b, .int .i64 n, .func (.func g) #[] cb] W fun e w' =>
      e = .returned (.tuple #[]) ∧ SWK enc 5 w0 blk 0 (A ++ (Y ++ (M ++ (X ++ B)))).toArray w' := by
  have mixed : Tryz.prog.follows .mixedOrders = true := by kernel_rfl
  have S0 := Lib.hid S
  have HG := Lib.hid (show _ ∧ _ ∧ _ ∧ _ ∧ _ from ⟨ha, hb, hn, hxy, hs⟩)
  have hbn : b + n ≤ d0.size := by rw [hs]; simp; omega
  have han : a + n ≤ d0.size := by rw [hs]; simp; omega
  have hanb : a + n ≤ b := by omega
  clear S ha hb hn hxy hs
  go_enter Tryz.func105, Tryz.ntmps105
  go_wp2
  go_loopg [10] n (fun kx s10 wr => ∃ i : Nat, s10 = .int .i64 i ∧ i + kx = n ∧ Hid (SWK enc 5 w0 blk 0 (A ++ (Y.take i ++ X.drop i ++ (M ++ (X.take i ++ Y.drop i ++ B)))).toArray wr))
  case atStart => exact ⟨0, rfl, by omega, by simpa using S0⟩
  case round =>
    clear S0
    obtain ⟨i, rfl, hik, hS⟩ := hrel
    by_cases hlt : i < n
    · have hlz : (i : Int) < (n : Int) := by omega
      obtain ⟨ha, hb, hn, hxy, hs⟩ := HG.out
      obtain ⟨x, hx⟩ : ∃ x, X[i]? = some x := ⟨_, List.getElem?_eq_getElem (by omega)⟩
      obtain ⟨y, hy⟩ : ∃ y, Y[i]? = some y := ⟨_, List.getElem?_eq_getElem (by omega)⟩
      have ex : X.drop i = x :: X.drop (i + 1) := by
        obtain ⟨h1, h2⟩ := List.getElem?_eq_some_iff.1 hx
        rw [← h2]; exact List.drop_eq_getElem_cons h1
      have ey : Y.drop i = y :: Y.drop (i + 1) := by
        obtain ⟨h1, h2⟩ := List.getElem?_eq_some_iff.1 hy
        rw [← h2]; exact List.drop_eq_getElem_cons h1
      have ex2 : X.take (i + 1) = X.take i ++ [x] := by rw [List.take_add_one, hx]; rfl
      have ey2 : Y.take (i + 1) = Y.take i ++ [y] := by rw [List.take_add_one, hy]; rfl
      have HE : Hid ((A ++ (Y.take i ++ X.drop i ++ (M ++ (X.take i ++ Y.drop i ++ B)))) = (A ++ Y.take i) ++ x :: ((X.drop (i + 1) ++ M ++ X.take i) ++ y :: (Y.drop (i + 1) ++ B)) ∧ (A ++ (Y.take (i + 1) ++ X.drop (i + 1) ++ (M ++ (X.take (i + 1) ++ Y.drop (i + 1) ++ B)))) = (A ++ Y.take i) ++ y :: ((X.drop (i + 1) ++ M ++ X.take i) ++ x :: (Y.drop (i + 1) ++ B))) := by
        constructor
        · rw [ex, ey]; simp
        · rw [ex2, ey2]; simp
      have HS := Lib.hid (HE.out.1 ▸ hS.out)
      obtain ⟨A', hA'⟩ : ∃ A', A' = A ++ Y.take i := ⟨_, rfl⟩
      obtain ⟨M', hM'⟩ : ∃ M', M' = X.drop (i + 1) ++ M ++ X.take i := ⟨_, rfl⟩
      obtain ⟨B', hB'⟩ : ∃ B', B' = Y.drop (i + 1) ++ B := ⟨_, rfl⟩
      rw [← hA', ← hM', ← hB'] at HS HE
      have hi1 : a + i = A'.length := by rw [hA']; simp; omega
      have hj1 : b + i = A'.length + 1 + M'.length := by rw [hA', hM']; simp; omega
      have hsd : (A' ++ x :: (M' ++ y :: B')).toArray.size = d0.size := by
        rw [hs, List.size_toArray, ← HE.out.1]; simp; omega
      have gx : (A' ++ x :: (M' ++ y :: B')).toArray[a + i]! = x := at_mid' hi1
      have gy : (A' ++ x :: (M' ++ y :: B')).toArray[b + i]! = y := by rw [show (A' ++ x :: (M' ++ y :: B')) = (A' ++ x :: M') ++ y :: B' by simp]; exact at_mid' (by simp; omega)
      obtain ⟨x0, x1, x2, x3, x4, ecx⟩ := hN x
      obtain ⟨⟨lx0, lx1, lx2, lx3, lx4⟩, fx0, fx1, fx2, fx3, fx4⟩ := swk_get HS.out R hsd (i := a + i) (by rw [hi1]; simp) ((congrArg enc gx).trans ecx)
      obtain ⟨y0, y1, y2, y3, y4, ecy⟩ := hN y
      obtain ⟨⟨ly0, ly1, ly2, ly3, ly4⟩, fy0, fy1, fy2, fy3, fy4⟩ := swk_get HS.out R hsd (i := b + i) (by rw [hj1]; simp; omega) ((congrArg enc gy).trans ecy)
      have H2 := Lib.hid (swk_swap HS.out R hi1 hj1)
      rw [ecx, ecy] at H2
      simp only [World.setCells, Nat.add_assoc, Nat.reduceAdd] at H2
      have ea1 : ((a : Int) + (i : Int)).toNat = a + i := by omega
      have pa1 : (0 : Int) ≤ (a : Int) + (i : Int) := by omega
      have ba1 : (a : Int) + (i : Int) < (d0.size : Int) := by omega
      have ra1 : IntKind.i64.wrap ((a : Int) + (i : Int)) = (a : Int) + (i : Int) := by rw [IntKind.wrap_i64]; omega
      have ea2 : ((b : Int) + (i : Int)).toNat = b + i := by omega
      have pa2 : (0 : Int) ≤ (b : Int) + (i : Int) := by omega
      have ba2 : (b : Int) + (i : Int) < (d0.size : Int) := by omega
      have ra2 : IntKind.i64.wrap ((b : Int) + (i : Int)) = (b : Int) + (i : Int) := by rw [IntKind.wrap_i64]; omega
      have HE2 := Lib.hid HE.out.2
      clear ha hb hn hxy hs hS HS hi1 hj1 hsd hA' hM' hB' ex ey ex2 ey2 hx hy ecx ecy gx gy HE
      go_wp2_with fail
      go_big_region_o
      all_goals go_wp2
      go_roundg (n - (i + 1))
      case measure => omega
      case rel => exact ⟨i + 1, by first | rfl | go_num, by omega, by rw [HE2.out]; exact H2⟩
    · obtain rfl : i = n := by omega
      have hlz : ¬ (i : Int) < (i : Int) := by omega
      go_wp2
      go_end0
      refine ⟨rfl, ?_⟩
      obtain ⟨ha, hb, hn, hxy, hs⟩ := HG.out
      have := hS.out
      rw [List.take_of_length_le (show Y.length ≤ i by omega), List.drop_of_length_le (show X.length ≤ i by omega), List.take_of_length_le (show X.length ≤ i by omega), List.drop_of_length_le (show Y.length ≤ i by omega)] at this
      simpa using this

set_option maxHeartbeats 2000000 in
set_option maxRecDepth 1000000 in
theorem rotate_any (hN : Nums enc) (R : RowK enc 5 w0 blk 0 d0) (A X Y B : List α) (g : Nat) (cb : Array Value) (cap a m b : Nat) (ha : a = A.length) (hm : m = A.length + X.length) (hb : b = A.length + X.length + Y.length) (hX : 0 < X.length) (hY : 0 < Y.length) (hs : d0.size = (A ++ (X ++ (Y ++ B))).length) (hsz : d0.size < 4611686018427387904)
    (S : SWK enc 5 w0 blk 0 (A ++ (X ++ (Y ++ B))).toArray W) :
    Calls Tryz.prog 96 #[.slice (some ⟨blk, 0, none⟩) d0.size cap, .int .i64 a, .int .i64 m, .int .i64 b, .func (.func g) #[] cb] W fun e w' =>
      e = .returned (.tuple #[]) ∧ SWK enc 5 w0 blk 0 (A ++ (Y ++ (X ++ B))).toArray w' := by
  have S0 := Lib.hid S
  have HG := Lib.hid hs
  have ham : a < m := by omega
  have hmb : m < b := by omega
  have hbs : b ≤ d0.size := by rw [hs]; simp; omega
  have HL := Lib.hid (show A.length + (m - a) = m ∧ X.length = m - a ∧ Y.length = b - m ∧ A ++ (Y ++ (X ++ B)) = A ++ (Y ++ (X ++ B)) from ⟨by omega, by omega, by omega, rfl⟩)
  clear S hs ha hm hb hX hY
  go_enter Tryz.func96, Tryz.ntmps96
  go_wp2
  go_loopg [10, 11] (b - a) (fun kx s10 s11 wr => ∃ (i j : Nat) (A' X' Y' B' : List α), s10 = .int .i64 i ∧ s11 = .int .i64 j ∧ 0 < i ∧ 0 < j ∧ i ≤ m ∧ m + j ≤ d0.size ∧ i + j ≤ kx ∧ Hid (A'.length + i = m ∧ X'.length = i ∧ Y'.length = j ∧ A' ++ (Y' ++ (X' ++ B')) = A ++ (Y ++ (X ++ B))) ∧ Hid (SWK enc 5 w0 blk 0 (A' ++ (X' ++ (Y' ++ B'))).toArray wr))
  case atStart => exact ⟨m - a, b - m, A, X, Y, B, by rw [show ((m - a : Nat) : Int) = (m : Int) - (a : Int) by omega], by rw [show ((b - m : Nat) : Int) = (b : Int) - (m : Int) by omega], by omega, by omega, by omega, by omega, by omega, Lib.hid ⟨HL.out.1, HL.out.2.1, HL.out.2.2.1, rfl⟩, S0⟩
  case round =>
    clear S0 HL
    obtain ⟨i, j, A', X', Y', B', rfl, rfl, hi0, hj0, him, hjs, hkx, HL, hS⟩ := hrel
    obtain ⟨l1, l2, l3, l4⟩ := HL.out
    have hlen : d0.size = (A' ++ (X' ++ (Y' ++ B'))).length := by
      have := congrArg List.length l4
      rw [HG.out]; simp at this ⊢; omega
    rcases Nat.lt_trichotomy i j with hij | hij | hij
    · have hz1 : ¬ (i : Int) = (j : Int) := by omega
      have hz2 : ¬ (j : Int) < (i : Int) := by omega
      have hc := swapRange_any hN R A' X' (Y'.take (j - i)) (Y'.drop (j - i)) B' g cb cap (m - i) (m + j - i) i (by omega) (by simp; omega) l2.symm (by simp; omega) (by rw [hlen]; simp; omega) hsz (W := wr) (by
        have := hS.out
        rwa [show X' ++ (Y' ++ B') = X' ++ (Y'.take (j - i) ++ (Y'.drop (j - i) ++ B')) by rw [← List.append_assoc (Y'.take _), List.take_append_drop]] at this)
      rw [show ((m - i : Nat) : Int) = (m : Int) - (i : Int) by omega, show ((m + j - i : Nat) : Int) = (m : Int) + (j : Int) - (i : Int) by omega] at hc
      have HC := Lib.hid hc
      have HL2 := Lib.hid (show A'.length + i = m ∧ (Y'.drop (j - i)).length = i ∧ (Y'.take (j - i)).length = j - i ∧ A' ++ (Y'.take (j - i) ++ (Y'.drop (j - i) ++ (X' ++ B'))) = A ++ (Y ++ (X ++ B)) from ⟨l1, by simp; omega, by simp; omega, by rw [← l4, ← List.append_assoc (Y'.take _), List.take_append_drop]⟩)
      clear l1 l2 l3 l4 hlen hS hc
      go_wp2_with (go_at_call 105; refine HC.out.mono ?_; rintro e w1 ⟨rfl, h1⟩; have H1 := Lib.hid h1; clear h1)
      go_roundg (i + (j - i))
      case measure => omega
      case rel => exact ⟨i, j - i, A', Y'.drop (j - i), Y'.take (j - i), X' ++ B', by first | rfl | go_num, by rw [show ((j - i : Nat) : Int) = (j : Int) - (i : Int) by omega], by omega, by omega, by omega, by omega, by omega, HL2, H1⟩
    · subst hij
      have hz1 : (i : Int) = (i : Int) := rfl
      have hc := swapRange_any hN R A' X' [] Y' B' g cb cap (m - i) m i (by omega) (by simp; omega) l2.symm (by omega) (by rw [hlen]; simp) hsz (W := wr) (by simpa using hS.out)
      rw [show ((m - i : Nat) : Int) = (m : Int) - (i : Int) by omega] at hc
      have HC := Lib.hid hc
      have HL4 := Lib.hid l4
      clear l1 l2 l3 l4 hlen hS hc
      go_wp2_with (go_at_call 105; refine HC.out.mono ?_; rintro e w1 ⟨rfl, h1⟩; have H1 := Lib.hid h1; clear h1)
      go_end0
      refine ⟨rfl, ?_⟩
      have := H1.out
      rw [List.nil_append, HL4.out] at this
      exact this
    · have hz1 : ¬ (i : Int) = (j : Int) := by omega
      have hz2 : (j : Int) < (i : Int) := by omega
      have hc := swapRange_any hN R A' (X'.take j) (X'.drop j) Y' B' g cb cap (m - i) m j (by omega) (by simp; omega) (by simp; omega) (by simp; omega) (by rw [hlen]; simp; omega) hsz (W := wr) (by
        have := hS.out
        rwa [show X' ++ (Y' ++ B') = X'.take j ++ (X'.drop j ++ (Y' ++ B')) by rw [← List.append_assoc (X'.take _), List.take_append_drop]] at this)
      rw [show ((m - i : Nat) : Int) = (m : Int) - (i : Int) by omega] at hc
      have HC := Lib.hid hc
      have HL2 := Lib.hid (show (A' ++ Y').length + (i - j) = m ∧ (X'.drop j).length = i - j ∧ (X'.take j).length = j ∧ (A' ++ Y') ++ (X'.take j ++ (X'.drop j ++ B')) = A ++ (Y ++ (X ++ B)) from ⟨by simp; omega, by simp; omega, by simp; omega, by rw [← l4, ← List.append_assoc (X'.take _), List.take_append_drop, List.append_assoc]⟩)
      clear l1 l2 l3 l4 hlen hS hc
      go_wp2_with (go_at_call 105; refine HC.out.mono ?_; rintro e w1 ⟨rfl, h1⟩; have H1 := Lib.hid h1; clear h1)
      go_roundg (i - j + j)
      case measure => omega
      case rel => exact ⟨i - j, j, A' ++ Y', X'.drop j, X'.take j, B', by rw [show ((i - j : Nat) : Int) = (i : Int) - (j : Int) by omega], by first | rfl | go_num, by omega, by omega, by omega, by omega, by omega, HL2, by simpa using H1⟩

/-- Where the elements of three parts lie. -/
structure Parts (D : Array α) (A X Y B : List α) (a m b : Nat) : Prop where
  eq : D = (A ++ (X ++ (Y ++ B))).toArray
  la : a = A.length
  lm : m = A.length + X.length
  lb : b = A.length + X.length + Y.length
theorem Parts.gx {D : Array α} {A X Y B : List α} {a m b t : Nat} (h : Parts D A X Y B a m b) (ht : t < X.length) : D[a + t]! = X[t] := by
  rw [h.eq]
  exact at_x (by rw [h.la]) ht
theorem Parts.gy {D : Array α} {A X Y B : List α} {a m b t : Nat} (h : Parts D A X Y B a m b) (ht : t < Y.length) : D[m + t]! = Y[t] := by
  rw [h.eq, ← List.append_assoc]
  exact at_x (by rw [h.lm, List.length_append]) ht
omit [Inhabited α] in
theorem Parts.size {D : Array α} {A X Y B : List α} {a m b : Nat} (h : Parts D A X Y B a m b) : b ≤ D.size := by
  rw [h.eq, h.lb]; simp; omega
theorem Parts.mono1 {lt : α → α → Bool} (hO : SWO lt) {D : Array α} {A X Y B : List α} {a m b : Nat} (h : Parts D A X Y B a m b) (hY : Srt lt Y) (x : α) : ∀ t t', m ≤ t → t ≤ t' → t' < b → lt D[t']! x = true → lt D[t]! x = true := by
  intro t t' h1 h2 h3 h4
  have := h.lm; have := h.lb
  obtain ⟨u, rfl⟩ : ∃ u, t = m + u := ⟨t - m, by omega⟩
  obtain ⟨u', rfl⟩ : ∃ u, t' = m + u := ⟨t' - m, by omega⟩
  rw [h.gy (by omega)] at h4 ⊢
  exact srt_lt_left hO hY (by omega) (by omega) h4
theorem Parts.mono2 {lt : α → α → Bool} (hO : SWO lt) {D : Array α} {A X Y B : List α} {a m b : Nat} (h : Parts D A X Y B a m b) (hX : Srt lt X) (y : α) : ∀ t t', a ≤ t → t ≤ t' → t' < m → lt y D[t']! = false → lt y D[t]! = false := by
  intro t t' h1 h2 h3 h4
  have := h.lm; have := h.la
  obtain ⟨u, rfl⟩ : ∃ u, t = a + u := ⟨t - a, by omega⟩
  obtain ⟨u', rfl⟩ : ∃ u, t' = a + u := ⟨t' - a, by omega⟩
  rw [h.gx (by omega)] at h4 ⊢
  exact srt_ge_left hO hX (by omega) (by omega) h4
theorem Parts.mono3 {lt : α → α → Bool} (hO : SWO lt) {D : Array α} {A X Y B : List α} {a m b n s0 r0 : Nat} (h : Parts D A X Y B a m b) (hX : Srt lt X) (hY : Srt lt Y) (hs : a ≤ s0) (hr : r0 ≤ m) (hn : n ≤ b + s0) (hn2 : m + r0 ≤ n) : ∀ t t', s0 ≤ t → t ≤ t' → t' < r0 → lt D[n - 1 - t']! D[t']! = false → lt D[n - 1 - t]! D[t]! = false := by
  intro t t' h1 h2 h3 h4
  have := h.lm; have := h.la; have := h.lb
  obtain ⟨u, hu⟩ : ∃ u, t = a + u := ⟨t - a, by omega⟩
  obtain ⟨u', hu'⟩ : ∃ u, t' = a + u := ⟨t' - a, by omega⟩
  obtain ⟨v, hv⟩ : ∃ v, n - 1 - t = m + v := ⟨n - 1 - t - m, by omega⟩
  obtain ⟨v', hv'⟩ : ∃ v, n - 1 - t' = m + v := ⟨n - 1 - t' - m, by omega⟩
  rw [hv', hu', h.gy (by omega), h.gx (by omega)] at h4
  rw [hv, hu, h.gy (by omega), h.gx (by omega)]
  have g1 := srt_le hO hY (i := v') (j := v) (by omega) (by omega)
  have g2 := srt_le hO hX (i := u) (j := u') (by omega) (by omega)
  exact hO.ntrans _ _ _ (hO.ntrans _ _ _ g1 h4) g2

end
end Go.Proofs.YtgabidgpngiecaaGreat

namespace Go.Proofs.YtgabidgpngiecaaGreat
open Go.RowKit Go.Lib Go.Sort Go.Proofs Go.Proofs.YtgabidgpngiecaaGreatPlain
section
variable {α : Type} [Inhabited α] {enc : α → List Value} {w0 W : World} {blk : Nat} {d0 : Array α}
set_option maxHeartbeats 2000000 in
set_option maxRecDepth 1000000 in
theorem symMerge_first (hN : Nums enc) (Rw : RowK enc 5 w0 blk 0 d0) (cf : α → α → Int) (hO : SWO (ltOf cf)) (g : Nat) (cb : Array Value) (eg : ∀ args w, (callFunc g args).run Tryz.prog w = .ok (.enter g args) w) (hcmp : CmpLays Tryz.prog g cb enc 5 cf blk 0 d0.size w0) (hsz : d0.size < 4611686018427387904) (cap : Nat) (A : List α) (x : α) (Y B : List α) (a m b : Nat) (ha : a = A.length) (hm : m = A.length + [x].length) (hb : b = A.length + [x].length + Y.length) (hX : 0 < [x].length) (hY : 0 < Y.length) (hs : d0.size = (A ++ ([x] ++ (Y ++ B))).length) (hsX : Srt (ltOf cf) [x]) (hsY : Srt (ltOf cf) Y) (S : SWK enc 5 w0 blk 0 (A ++ ([x] ++ (Y ++ B))).toArray W) :
    Calls Tryz.prog 76 #[.slice (some ⟨blk, 0, none⟩) d0.size cap, .int .i64 a, .int .i64 m, .int .i64 b, .func (.func g) #[] cb] W fun e w' =>
      e = .returned (.tuple #[]) ∧ SWK enc 5 w0 blk 0 (A ++ (mrg (ltOf cf) [x] Y ++ B)).toArray w' := by
  have mixed : Tryz.prog.follows .mixedOrders = true := by kernel_rfl
  have HC := Lib.hid hcmp
  obtain ⟨D, hD⟩ : ∃ D : Array α, D = (A ++ ([x] ++ (Y ++ B))).toArray := ⟨_, rfl⟩
  have hP : Parts D A [x] Y B a m b := ⟨hD, ha, hm, hb⟩
  have HD := Lib.hid (show D.size = d0.size from by rw [hD, hs]; simp)
  rw [← hD] at S
  have HS := Lib.hid S
  have HP0 := Lib.hid hP
  have HO := Lib.hid hO
  have HXY := Lib.hid (show _ ∧ _ from ⟨hsX, hsY⟩)
  have ham : a < m := by omega
  have hmb : m < b := by omega
  have hbs : b ≤ d0.size := by rw [hs]; simp only [List.length_append]; omega
  clear hcmp
  have hz1 : ((m : Int) - (a : Int) == 1) = true := by simp at hm; simp; omega
  have HM : Hid ((∀ t t', m ≤ t → t ≤ t' → t' < b → ltOf cf D[t']! D[a]! = true → ltOf cf D[t]! D[a]! = true) ∧ (∀ t t', m ≤ t → t ≤ t' → t' < b → ltOf cf D[t]! D[a]! = false → ltOf cf D[t']! D[a]! = false)) := Lib.hid ⟨hP.mono1 hO hsY _, mono_not (p := fun t => ltOf cf D[t]! D[a]!) (r := true) (hP.mono1 hO hsY _)⟩
  clear S hD hP hs hsX hsY ha hm hb hX hY hO
  go_enter Tryz.func76, Tryz.ntmps76
  go_wp2_with fail
  go_loopg [10, 11] (b - m) (fun kx s10 s11 wr => ∃ i j : Nat, s10 = .int .i64 i ∧ s11 = .int .i64 j ∧ m ≤ i ∧ i ≤ j ∧ j ≤ b ∧ j - i ≤ kx ∧ Hid (SWK enc 5 w0 blk 0 D wr) ∧ Hid ((∀ t, m ≤ t → t < i → ltOf cf D[t]! D[a]! = true) ∧ (∀ t, j ≤ t → t < b → ltOf cf D[t]! D[a]! = false)))
  case atStart => exact ⟨m, b, rfl, rfl, Nat.le_refl _, by omega, Nat.le_refl _, Nat.le_refl _, HS, Lib.hid ⟨fun t h1 h2 => by omega, fun t h1 h2 => by omega⟩⟩
  case round =>
    clear HS
    obtain ⟨i, j, rfl, rfl, hlo, hij, hhi, hkx, hS, hI⟩ := hrel
    by_cases hlt : i < j
    · have hlz : (i : Int) < (j : Int) := by omega
      have ea1 : (((i : Int) + (j : Int)) / 2).toNat = (i + j) / 2 := by omega
      have pa1 : (0 : Int) ≤ ((i : Int) + (j : Int)) / 2 := by omega
      have ba1 : ((i : Int) + (j : Int)) / 2 < (d0.size : Int) := by omega
      have ra1 : IntKind.i64.wrap (((i : Int) + (j : Int)) / 2) = ((i : Int) + (j : Int)) / 2 := by rw [IntKind.wrap_i64]; omega
      have ea2 : ((a : Int)).toNat = a := by omega
      have pa2 : (0 : Int) ≤ (a : Int) := by omega
      have ba2 : (a : Int) < (d0.size : Int) := by omega
      have ra2 : IntKind.i64.wrap ((a : Int)) = (a : Int) := by rw [IntKind.wrap_i64]; omega
      obtain ⟨xl, hxl⟩ : ∃ x, D[(i + j) / 2]! = x := ⟨_, rfl⟩
      obtain ⟨yr, hyr⟩ : ∃ x, D[a]! = x := ⟨_, rfl⟩
      obtain ⟨x0, x1, x2, x3, x4, ecx⟩ := hN xl
      have haex := fun n os => swk_get (hS.out.grown n os) Rw HD.out (i := (i + j) / 2) (by rw [HD.out]; omega) ((congrArg enc hxl).trans ecx)
      have lx0 : ∀ n os, (grow (wr.drewN n) os).cell? ⟨blk, (i + j) / 2 * 5, none⟩ = some (.int .i64 x0) := fun n os => (haex n os).1.1
      have lx1 : ∀ n os, (grow (wr.drewN n) os).cell? ⟨blk, (i + j) / 2 * 5 + 1, none⟩ = some (.int .i64 x1) := fun n os => (haex n os).1.2.1
      have lx2 : ∀ n os, (grow (wr.drewN n) os).cell? ⟨blk, (i + j) / 2 * 5 + 2, none⟩ = some (.int .i64 x2) := fun n os => (haex n os).1.2.2.1
      have lx3 : ∀ n os, (grow (wr.drewN n) os).cell? ⟨blk, (i + j) / 2 * 5 + 3, none⟩ = some (.int .i64 x3) := fun n os => (haex n os).1.2.2.2.1
      have lx4 : ∀ n os, (grow (wr.drewN n) os).cell? ⟨blk, (i + j) / 2 * 5 + 4, none⟩ = some (.int .i64 x4) := fun n os => (haex n os).1.2.2.2.2
      obtain ⟨y0, y1, y2, y3, y4, ecy⟩ := hN yr
      have haey := fun n os => swk_get (hS.out.grown n os) Rw HD.out (i := a) (by rw [HD.out]; omega) ((congrArg enc hyr).trans ecy)
      have ly0 : ∀ n os, (grow (wr.drewN n) os).cell? ⟨blk, a * 5, none⟩ = some (.int .i64 y0) := fun n os => (haey n os).1.1
      have ly1 : ∀ n os, (grow (wr.drewN n) os).cell? ⟨blk, a * 5 + 1, none⟩ = some (.int .i64 y1) := fun n os => (haey n os).1.2.1
      have ly2 : ∀ n os, (grow (wr.drewN n) os).cell? ⟨blk, a * 5 + 2, none⟩ = some (.int .i64 y2) := fun n os => (haey n os).1.2.2.1
      have ly3 : ∀ n os, (grow (wr.drewN n) os).cell? ⟨blk, a * 5 + 3, none⟩ = some (.int .i64 y3) := fun n os => (haey n os).1.2.2.2.1
      have ly4 : ∀ n os, (grow (wr.drewN n) os).cell? ⟨blk, a * 5 + 4, none⟩ = some (.int .i64 y4) := fun n os => (haey n os).1.2.2.2.2
      have hc := hS.out.cmp HC.out HD.out xl yr
      simp only [ecx, ecy] at hc
      have HP := Lib.hid (show ltOf cf D[((i + j) / 2)]! D[a]! = ltOf cf xl yr from by rw [hxl, hyr])
      clear haex haey ecx ecy hxl hyr
      cases hlv : ltOf cf xl yr with
      | true =>
        have hv : cf xl yr < 0 := of_decide_eq_true hlv
        have hd : decide (cf xl yr < 0) = true := decide_eq_true hv
        have HV := Lib.hid (HP.out.trans hlv)
        clear hlv HP
        go_wp2_with fail
        go_quiet_grown (first | (go_at_fn g; refine Calls.grown_of (hc _ _)))
        have S2 := Lib.hid (hS.out.grown nq osq)
        clear lx0 lx1 lx2 lx3 lx4 ly0 ly1 ly2 ly3 ly4 hc hS
        generalize grow (wr.drewN nq) osq = w2 at S2 ⊢
        clear nq osq
        go_wp2
        go_roundg (j - ((i + j) / 2 + 1))
        case measure => omega
        case rel => exact ⟨(i + j) / 2 + 1, j, by rw [show ((((i + j) / 2 + 1 : Nat)) : Int) = ((i : Int) + (j : Int)) / 2 + 1 by omega], by first | rfl | go_num, by omega, by omega, by omega, by omega, S2, Lib.hid ⟨fun t h1 h2 => HM.out.1 t ((i + j) / 2) h1 (by omega) (by omega) HV.out, hI.out.2⟩⟩
      | false =>
        have hv : ¬ cf xl yr < 0 := of_decide_eq_false hlv
        have hd : decide (cf xl yr < 0) = false := decide_eq_false hv
        have HV := Lib.hid (HP.out.trans hlv)
        clear hlv HP
        go_wp2_with fail
        go_quiet_grown (first | (go_at_fn g; refine Calls.grown_of (hc _ _)))
        have S2 := Lib.hid (hS.out.grown nq osq)
        clear lx0 lx1 lx2 lx3 lx4 ly0 ly1 ly2 ly3 ly4 hc hS
        generalize grow (wr.drewN nq) osq = w2 at S2 ⊢
        clear nq osq
        go_wp2
        go_roundg ((i + j) / 2 - i)
        case measure => omega
        case rel => exact ⟨i, (i + j) / 2, by first | rfl | go_num, by rw [show ((((i + j) / 2 : Nat)) : Int) = ((i : Int) + (j : Int)) / 2 by omega], by omega, by omega, by omega, by omega, S2, Lib.hid ⟨hI.out.1, fun t h1 h2 => HM.out.2 ((i + j) / 2) t (by omega) h1 h2 HV.out⟩⟩
    · obtain rfl : i = j := by omega
      have hlz : ¬ (i : Int) < (i : Int) := by omega
      obtain ⟨p, hp⟩ : ∃ p, i = m + p := ⟨i - m, by omega⟩
      have hpl : p ≤ Y.length := by have := HP0.out.lb; have := HP0.out.lm; omega
      have HMG : Hid (mrg (ltOf cf) [x] Y = Y.take p ++ x :: Y.drop p) := Lib.hid (mrg_one_left (fun t ht h1 => by
        have := hI.out.1 (m + t) (by omega) (by omega)
        rwa [HP0.out.gy ht, show D[a]! = x from HP0.out.gx (t := 0) (by simp)] at this) (fun t ht h1 => by
        have := hI.out.2 (m + t) (by omega) (by have := HP0.out.lb; have := HP0.out.lm; omega)
        rwa [HP0.out.gy ht, show D[a]! = x from HP0.out.gx (t := 0) (by simp)] at this))
      have HS := Lib.hid (show SWK enc 5 w0 blk 0 (A ++ (Y.take 0 ++ x :: (Y.drop 0 ++ B))).toArray wr from by have := hS.out; rw [HP0.out.eq] at this; simpa using this)
      have HPP := Lib.hid (show i = a + 1 + p from by have := HP0.out.la; have := HP0.out.lm; simp at this; omega)
      clear hI hS HM hp
      go_wp2_with fail
      go_loopg [13] p (fun kx s13 wr => ∃ k t : Nat, s13 = .int .i64 k ∧ a ≤ k ∧ k + 1 + kx = i ∧ Hid (k = a + t ∧ t + kx = p) ∧ Hid (SWK enc 5 w0 blk 0 (A ++ (Y.take t ++ x :: (Y.drop t ++ B))).toArray wr))
      case atStart => exact ⟨a, 0, rfl, Nat.le_refl _, by have := HPP.out; omega, Lib.hid ⟨rfl, by omega⟩, HS⟩
      case round =>
        clear HS
        obtain ⟨k, t, rfl, hak, hki, HT, hS⟩ := hrel
        by_cases hlt2 : k + 1 < i
        · have hlz2 : (k : Int) < (i : Int) - 1 := by omega
          have htl : t < Y.length := by have := HT.out; omega
          obtain ⟨z, hz⟩ : ∃ z, Y[t]? = some z := ⟨_, List.getElem?_eq_getElem htl⟩
          have ez : Y.drop t = z :: Y.drop (t + 1) := by
            obtain ⟨h1, h2⟩ := List.getElem?_eq_some_iff.1 hz
            rw [← h2]; exact List.drop_eq_getElem_cons h1
          have ez2 : Y.take (t + 1) = Y.take t ++ [z] := by rw [List.take_add_one, hz]; rfl
          have hk1 : k = (A ++ Y.take t).length := by have := HT.out; have := HP0.out.la; simp; omega
          have HE := Lib.hid (show (A ++ (Y.take (t) ++ x :: (Y.drop (t) ++ B))) = (A ++ Y.take t) ++ x :: ([] ++ z :: (Y.drop (t + 1) ++ B)) ∧ (A ++ (Y.take (t + 1) ++ x :: (Y.drop (t + 1) ++ B))) = (A ++ Y.take t) ++ z :: ([] ++ x :: (Y.drop (t + 1) ++ B)) from ⟨by rw [ez]; simp, by rw [ez2]; simp⟩)
          have HS := Lib.hid (HE.out.1 ▸ hS.out)
          have hsd : ((A ++ Y.take t) ++ x :: ([] ++ z :: (Y.drop (t + 1) ++ B))).toArray.size = d0.size := by
            rw [← HE.out.1, ← HD.out, HP0.out.eq]; have := HT.out; simp; omega
          have gx : ((A ++ Y.take t) ++ x :: ([] ++ z :: (Y.drop (t + 1) ++ B))).toArray[k]! = x := at_mid' hk1
          have gy : ((A ++ Y.take t) ++ x :: ([] ++ z :: (Y.drop (t + 1) ++ B))).toArray[k + 1]! = z := by rw [show (A ++ Y.take t) ++ x :: ([] ++ z :: (Y.drop (t + 1) ++ B)) = ((A ++ Y.take t) ++ [x]) ++ z :: (Y.drop (t + 1) ++ B) by simp]; exact at_mid' (by simp at hk1 ⊢; omega)
          obtain ⟨x0, x1, x2, x3, x4, ecx⟩ := hN x
          obtain ⟨⟨lx0, lx1, lx2, lx3, lx4⟩, fx0, fx1, fx2, fx3, fx4⟩ := swk_get HS.out Rw hsd (i := k) (by rw [hk1]; simp) ((congrArg enc gx).trans ecx)
          obtain ⟨y0, y1, y2, y3, y4, ecy⟩ := hN z
          obtain ⟨⟨ly0, ly1, ly2, ly3, ly4⟩, fy0, fy1, fy2, fy3, fy4⟩ := swk_get HS.out Rw hsd (i := k + 1) (by simp at hk1 ⊢; omega) ((congrArg enc gy).trans ecy)
          have H2 := Lib.hid (swk_swap HS.out Rw hk1 (j := k + 1) (by simp at hk1 ⊢; omega))
          rw [ecx, ecy] at H2
          simp only [World.setCells, Nat.add_assoc, Nat.reduceAdd] at H2
          have hn1a : ¬ k * 5 = (k + 1) * 5 + 1 := by omega
          have hn1b : ¬ k * 5 + 1 = (k + 1) * 5 := by omega
          have hn2a : ¬ k * 5 = (k + 1) * 5 + 2 := by omega
          have hn2b : ¬ k * 5 + 2 = (k + 1) * 5 := by omega
          have hn3a : ¬ k * 5 = (k + 1) * 5 + 3 := by omega
          have hn3b : ¬ k * 5 + 3 = (k + 1) * 5 := by omega
          have hn4a : ¬ k * 5 = (k + 1) * 5 + 4 := by omega
          have hn4b : ¬ k * 5 + 4 = (k + 1) * 5 := by omega
          have HE2 := Lib.hid HE.out.2
          have ea1 : ((k : Int)).toNat = k := by omega
          have pa1 : (0 : Int) ≤ (k : Int) := by omega
          have ba1 : (k : Int) < (d0.size : Int) := by omega
          have ra1 : IntKind.i64.wrap ((k : Int)) = (k : Int) := by rw [IntKind.wrap_i64]; omega
          have ea2 : ((k : Int) + 1).toNat = k + 1 := by omega
          have pa2 : (0 : Int) ≤ (k : Int) + 1 := by omega
          have ba2 : (k : Int) + 1 < (d0.size : Int) := by omega
          have ra2 : IntKind.i64.wrap ((k : Int) + 1) = (k : Int) + 1 := by rw [IntKind.wrap_i64]; omega
          clear hk1 hsd gx gy hz ez ez2 ecx ecy HE HS hS htl
          go_wp2_with fail
          go_big_region_o
          all_goals go_wp2
          go_roundg (i - (k + 1 + 1))
          case measure => omega
          case rel => exact ⟨k + 1, t + 1, by first | rfl | go_num, by omega, by omega, Lib.hid (by have := HT.out; omega), by rw [HE2.out]; exact H2⟩
        · have hlz2 : ¬ (k : Int) < (i : Int) - 1 := by omega
          obtain rfl : t = p := by have := HT.out; have := HPP.out; omega
          have HF := Lib.hid hS.out
          clear hS
          go_wp2_with fail
          (try simp only [Exit.inBlock, Exit.then])
          refine bodyPost_ret (results_none rfl _ _ _) rfl ?_
          exact ⟨rfl, by rw [HMG.out]; simpa using HF.out⟩
end
end Go.Proofs.YtgabidgpngiecaaGreat
