/- Contracts of order's At, of the reference's Drop and Fits. Conditions: each names its own. -/
import Derived.Test.YtdmckjojeddaaaaD1
import Derived.Test.YtdmckjojeddaaaaU1
import Derived.Test.YtdmckjojeddaaaaN1
import Derived.Deep.LoopGhost
namespace Go.Proofs.Ytdmckjojeddaaaa
open Go.RowKit Go.Proofs.YtdmckjojeddaaaaKit Go.Proofs.YtdmckjojeddaaaaPlain

def atL (l : PairL) (i : Int) : Option (List UInt8 × List UInt8) := if i < 0 then none else l[i.toNat]?
/-- What At hands back. -/
def MAt (w : World) (o : Option (List UInt8 × List UInt8)) (e : Ending) (w' : World) : Prop := match o with
  | none => e = .returned (.tuple #[.agg #[.slice none 0 0, .slice none 0 0], .int .i64 3]) ∧ Keep No w w'
  | some p => ∃ A c B d, e = .returned (.tuple #[.agg #[.slice A p.1.length c, .slice B p.2.length d], .int .i64 0]) ∧ Twin w p.1 p.2 A B c d w'
theorem at_mid {b : Nat} {k v : List UInt8} {l r : AT} {j : Nat} : (j < l.size → (AT.node b k v l r).toList[j]? = l.toList[j]?) ∧ (j = l.size → (AT.node b k v l r).toList[j]? = some (k, v)) ∧ (l.size < j → (AT.node b k v l r).toList[j]? = r.toList[j - (1 + l.size)]?) := by
  refine ⟨fun h => ?_, fun h => ?_, fun h => ?_⟩
  · rw [AT.toList, List.getElem?_append_left (by rw [toList_length]; exact h)]
  · subst h
    rw [AT.toList, List.getElem?_append_right (by rw [toList_length]; exact Nat.le_refl _), toList_length, Nat.sub_self]
    rfl
  · rw [AT.toList, List.getElem?_append_right (by rw [toList_length]; omega), toList_length]
    rw [show j - l.size = (j - (1 + l.size)) + 1 by omega, List.getElem?_cons_succ]

theorem twin_cell {w W W2 W3 : World} {k v : List UInt8} {A B : Option Addr} {c d : Nat} (tw : Twin W k v A B c d W2) (k0 : Keep No w W) (hs : w.heap.size < W.heap.size) (k3 : Keep (fun b => b = w.heap.size) W2 W3) : Twin w k v A B c d W3 := by
  obtain ⟨h1, h2, h3, h4, h5, h6⟩ := tw
  have h0 : w.heap.size ≤ W.heap.size := Nat.le_of_lt hs
  refine ⟨ownsRow_weak (own_keep h1 k3 (fun x e hx => ?_)) h0, ownsRow_weak (own_keep h2 k3 (fun x e hx => ?_)) h0, h3, h4, h5, ((k0.trans h6 (fun _ x => x.elim)).trans k3 (fun b hb => .inr (by omega)))⟩
  · have := (World.ownsRow.lt h1 x e).1; omega
  · have := (World.ownsRow.lt h2 x e).1; omega

set_option maxHeartbeats 2000000 in
set_option maxRecDepth 100000 in
theorem mat_any {base : Nat} {w : World} {seed : Int} {mb : Nat} {l : PairL} {F : List Nat} (i : Int) (h : MSt base w mb seed l F) (hsz : l.length ≤ 900000) :
    Calls Try.prog 56 #[.pointer (some ⟨mb, 0, none⟩), .int .i64 i] w (MAt w (atL l i)) := by
  have hk0 := (Keep.refl No w).alloc (.cells #[.slice none 0 0, .slice none 0 0] 82)
  have HR := Lib.hid (len_any (h.new_ hk0))
  by_cases hi : i < 0
  · have q : decide (i < 0) = true := decide_eq_true hi
    have HE := Lib.hid (show atL l i = none by rw [atL, if_pos hi])
    clear h
    go_enter Try.func56, Try.ntmps56
    go_wp2_with fail
    rw [HE.out]
    exact bodyPost_ret (results_cell_row_tmp rfl _ _ w.heap.size 82 #[.slice none 0 0, .slice none 0 0] (0, 0) _ rfl (Blk.new _ _ _) Try.underlying82 rfl info_size_pair) rfl ⟨rfl, (Keep.refl No w).alloc _⟩
  · obtain ⟨j, rfl⟩ : ∃ j : Nat, i = (j : Int) := ⟨i.toNat, by omega⟩
    have HE := Lib.hid (show atL l (j : Int) = l[j]? by rw [atL, if_neg hi]; simp)
    by_cases hj : l.length ≤ j
    · have HN := Lib.hid (show l[j]? = none from List.getElem?_eq_none hj)
      clear h
      have q : decide ((j : Int) < 0) = false := decide_eq_false hi
      have q2 : decide ((l.length : Int) ≤ (j : Int)) = true := decide_eq_true (by omega)
      have q3 : decide (l.length ≤ j) = true := decide_eq_true hj
      go_enter Try.func56, Try.ntmps56
      go_wp2_with (go_at_call 27; refine HR.out.mono ?_; rintro e w' ⟨rfl, rfl⟩)
      rw [HE.out, HN.out]
      exact bodyPost_ret (results_cell_row_tmp rfl _ _ w.heap.size 82 #[.slice none 0 0, .slice none 0 0] (0, 0) _ rfl (Blk.new _ _ _) Try.underlying82 rfl info_size_pair) rfl ⟨rfl, (Keep.refl No w).alloc _⟩
    · have hj' : j < l.length := by omega
      obtain ⟨p, hp⟩ : ∃ p, l[j]? = some p := ⟨_, List.getElem?_eq_getElem hj'⟩
      have HN := Lib.hid (HE.out.trans hp)
      have HB := Lib.hid (Blk.new w 82 #[.slice none 0 0, .slice none 0 0])
      obtain ⟨t, hO, hwf, htl, rfl⟩ := h.new_ hk0
      subst htl
      rw [toList_length] at hsz hj'
      obtain ⟨_, _, m2⟩ := hO.has.cells
      have HT := Lib.hid hO.rep
      have HP := Lib.hid hp
      have q : decide ((j : Int) < 0) = false := decide_eq_false hi
      have q2 : decide ((t.toList.length : Int) ≤ (j : Int)) = false := decide_eq_false (by omega)
      have q3 : decide (t.toList.length ≤ j) = false := decide_eq_false hj
      clear hO hwf hp h hi hj
      obtain ⟨w1, hw1⟩ : ∃ x, x = w.alloc (.cells #[.slice none 0 0, .slice none 0 0] 82) := ⟨_, rfl⟩
      go_enter Try.func56, Try.ntmps56
      go_wp2_with (go_at_call 27; refine HR.out.mono ?_; rintro e w' ⟨rfl, rfl⟩)
      have HK := Lib.hid hk0
      rw [← hw1] at HK m2 HT HB
      have HZ := Lib.hid (show w.heap.size < w1.heap.size from by rw [hw1]; simp)
      have HW := Lib.hid hw1
      clear hw1 hk0
      go_loopg [1, 6] t.size (fun m v1 v6 wr => ∃ (s : AT) (jj : Nat), v6 = .pointer s.ptr ∧ v1 = .int .i64 (jj : Nat) ∧ jj < s.size ∧ s.size ≤ 900000 ∧ Hid (s.size = m) ∧ Hid (s.toList[jj]? = some p) ∧ Hid (Rep base w1 seed s) ∧ Hid (w1 = wr))
      case atStart => exact ⟨t, j, rfl, rfl, hj', hsz, Lib.hid rfl, HP, HT, HW⟩
      case round =>
        obtain ⟨s, jj, rfl, rfl, hjj, hss, hg, hs, hr, hwr⟩ := hrel
        obtain rfl := hwr.out
        cases s with
        | nil => simp [AT.size] at hjj
        | node b k v lt rt =>
          rw [ptr_node]
          have HNo := Lib.hid hr.out.root
          obtain ⟨_, _, _, _, _, _, _, _, _, e3, e4, _⟩ := hr.out.root.cells
          have HC1 := Lib.hid (count_any hr.out.2.1)
          have hszn : jj < 1 + lt.size + rt.size := hjj
          have hss2 : 1 + lt.size + rt.size ≤ 900000 := hss
          obtain ⟨q1, q2, q3⟩ := at_mid (b := b) (k := k) (v := v) (l := lt) (r := rt) (j := jj)
          have HQ := Lib.hid (show _ ∧ _ ∧ _ from ⟨q1, q2, q3⟩)
          clear q1 q2 q3 hjj hss
          rcases Nat.lt_trichotomy jj lt.size with hlt | heq | hgt
          · have hs2 := Lib.hid ((HQ.out.1 hlt).symm.trans hs.out)
            have hlt2 : lt.size < gk := by have := hg.out; simp only [AT.size] at this; omega
            go_wp2_with (go_at_call 68; refine HC1.out.mono ?_; rintro e w' ⟨rfl, rfl⟩)
            go_roundg lt.size
            case measure => omega
            case rel => exact ⟨lt, jj, rfl, rfl, hlt, by omega, Lib.hid rfl, hs2, Lib.hid hr.out.2.1, Lib.hid rfl⟩
          · have hs2 := Lib.hid (Option.some.inj ((HQ.out.2.1 heq).symm.trans hs.out))
            have HP2 := Lib.hid (pair_any HNo.out)
            go_wp2_with (first | (go_at_call 68; refine HC1.out.mono ?_; rintro e w' ⟨rfl, rfl⟩) | (go_at_call 67; refine HP2.out.mono ?_; rintro e w2 ⟨Ak, ck, Av, cv, rfl, tw⟩; have HTW := Lib.hid tw; clear tw; have hB2 := HB.out.keep HTW.out.2.2.2.2.2 (fun x => x); have g0 := hB2.cell 0; have g1 := hB2.cell 1; have f0 := hB2.frozen 0; have f1 := hB2.frozen 1))
            rw [HN.out]
            have hb9 := (hB2.set_ 0 (Value.slice Ak k.length ck)).set_ 1 (Value.slice Av v.length cv)
            refine bodyPost_ret (results_cell_row_tmp rfl _ (w2.setCell _ _ |>.setCell _ _) w.heap.size 82 #[.slice Ak k.length ck, .slice Av v.length cv] (0, 0) _ rfl hb9 Try.underlying82 rfl info_size_pair) rfl ?_
            obtain rfl := hs2.out
            exact ⟨Ak, ck, Av, cv, rfl, twin_cell HTW.out HK.out HZ.out (((Keep.refl (fun b => b = w.heap.size) w2).setCell (p := ⟨w.heap.size, 0, none⟩) (.inl rfl) _).setCell (p := ⟨w.heap.size, 1, none⟩) (.inl rfl) _)⟩
          · have hs2 := Lib.hid ((HQ.out.2.2 hgt).symm.trans hs.out)
            have hlt2 : rt.size < gk := by have := hg.out; simp only [AT.size] at this; omega
            have hge2 : ¬ jj < lt.size := by omega
            have hne2 : ¬ ((jj : Int) = (lt.size : Int)) := by omega
            have hlt3 : ¬ (jj : Int) < (lt.size : Int) := by omega
            have hjr : ((jj : Int) - (1 + (lt.size : Int))) = ((jj - (1 + lt.size) : Nat) : Int) := by omega
            go_wp2_with (go_at_call 68; refine HC1.out.mono ?_; rintro e w' ⟨rfl, rfl⟩)
            go_roundg rt.size
            case measure => omega
            case rel => exact ⟨rt, jj - (1 + lt.size), rfl, rfl, by omega, by omega, Lib.hid rfl, hs2, Lib.hid hr.out.2.2, Lib.hid rfl⟩
end Go.Proofs.Ytdmckjojeddaaaa
