/- Contract of order.Check: what a proof shows. Conditions: the lengths are those that statements hand in. -/
import Derived.Test.YtdmckjojeddaaaaC5
import Derived.Test.YtdmckjojeddaaaaKit
import Derived.Test.YtdmckjojeddaaaaP6
namespace Go.Proofs.Ytdmckjojeddaaaa
open Go.RowKit Go.Proofs.YtdmckjojeddaaaaKit Go.Proofs.YtdmckjojeddaaaaPlain

/-- What steps show of a key under a digest: none: they are no proof; some none: it is not there; some (some v): its value. -/
def chk (seed : Int) (key : List UInt8) : Int → List Side → Option (Option (List UInt8))
  | d, [] => if d = 0 then some none else none
  | d, s :: r =>
    if allowedB s.key s.value = false ∨ mark seed s.left s.key s.value s.right ≠ d then none
    else if key = s.key then (if r = [] then some (some s.value) else none)
    else chk seed key (if Lt key s.key then s.left else s.right) r

def Checked (base : Nat) (w : World) (o : Option (Option (List UInt8))) (e : Ending) (w' : World) : Prop :=
  Keep No w w' ∧ match o with
    | none => e = .returned (.tuple #[.slice none 0 0, .bool false, .int .i64 2])
    | some none => e = .returned (.tuple #[.slice none 0 0, .bool false, .int .i64 0])
    | some (some v) => ∃ A c, e = .returned (.tuple #[.slice A v.length c, .bool true, .int .i64 0]) ∧ Bytes base w' A v.length v

theorem Checked.bad {base : Nat} {w w' : World} {o : Option (Option (List UInt8))} (h : o = none) (k : Keep No w w') : Checked base w o (.returned (.tuple #[.slice none 0 0, .bool false, .int .i64 2])) w' := by
  subst h; exact ⟨k, rfl⟩
theorem Checked.no {base : Nat} {w w' : World} {o : Option (Option (List UInt8))} (h : o = some none) (k : Keep No w w') : Checked base w o (.returned (.tuple #[.slice none 0 0, .bool false, .int .i64 0])) w' := by
  subst h; exact ⟨k, rfl⟩
theorem Checked.yes {base : Nat} {w w' : World} {o : Option (Option (List UInt8))} {v : List UInt8} {A : Option Addr} {c : Nat} (h : o = some (some v)) (k : Keep No w w') (hb : Bytes base w' A v.length v) : Checked base w o (.returned (.tuple #[.slice A v.length c, .bool true, .int .i64 0])) w' := by
  subst h; exact ⟨k, A, c, rfl, hb⟩
theorem chk_nil (seed : Int) (key : List UInt8) (d : Int) : chk seed key d [] = if d = 0 then some none else none := rfl
theorem chk_at (seed : Int) (key : List UInt8) (d : Int) (l : List Side) (k : Nat) (h : k < l.length) : chk seed key d (l.drop k) =
    if allowedB l[k].key l[k].value = false ∨ mark seed l[k].left l[k].key l[k].value l[k].right ≠ d then none
    else if key = l[k].key then (if k + 1 = l.length then some (some l[k].value) else none)
    else chk seed key (if Lt key l[k].key then l[k].left else l[k].right) (l.drop (k + 1)) := by
  rw [List.drop_eq_getElem_cons h, chk]
  have : (l.drop (k + 1) = []) ↔ k + 1 = l.length := by rw [List.drop_eq_nil_iff]; omega
  simp only [this]

set_option maxHeartbeats 2000000 in
set_option maxRecDepth 100000 in
theorem check_any {base : Nat} (seed digest : Int) (A L : Option Addr) (n c m d : Nat) (key : List UInt8) (l : List Side) (w : World) (hk : Bytes base w A n key) (hl : Sides base w L m l)
    (hm : m ≤ 100000) (hv : ∀ s ∈ l, s.key.length ≤ 10000 ∧ s.value.length ≤ 10000) :
    Calls Try.prog 16 #[.int .u64 seed, .int .u64 digest, .slice A n c, .slice L m d] w (Checked base w (chk seed key digest l)) := by
  obtain rfl := hk.len
  obtain rfl := hl.len (by omega)
  have HK := Lib.hid hk
  have HL := Lib.hid hl
  clear hk hl
  go_enter Try.func16, Try.ntmps16
  go_wp2
  go_loopw [1, 19] (fun v1 v19 wr => ∃ (k : Nat) (g : Int), k ≤ l.length ∧ v19 = .int .i64 k ∧ v1 = .int .u64 g ∧ Hid (chk seed key digest l = chk seed key g (l.drop k)) ∧ Keep No w wr) (fun _ i _ => l.length - (intOf i).toNat)
  case atStart => exact ⟨0, digest, Nat.zero_le _, rfl, rfl, rfl, Keep.refl _ _⟩
  case round =>
    obtain ⟨k, g, hk, rfl, rfl, hI, hw⟩ := hrel
    by_cases hlt : k < l.length
    · obtain ⟨ad, A1, c1, A2, c2, rfl, him, e0, e1, e2, e3, b1, b2, p1, p2⟩ := ((HL.out).new_ hw).at_ hlt
      have hvk := hv l[k] (List.getElem_mem hlt)
      have hst := Lib.hid (hI.out.trans (chk_at seed key g l k hlt))
      have hb := him.lt
      generalize l[k] = s at *
      have hv1 := hvk.1
      have hv2 := hvk.2
      clear hvk hv
      by_cases q1 : s.key.length < 1
      · have hst2 := Lib.hid (hst.out.trans (if_pos (.inl (by simp [allowedB]; omega))))
        go_wp2
        go_ret3
        exact Checked.bad hst2.out (hw.alloc _)
      by_cases q2 : 64 < s.key.length
      · have hst2 := Lib.hid (hst.out.trans (if_pos (.inl (by simp [allowedB]; omega))))
        go_wp2
        go_ret3
        exact Checked.bad hst2.out (hw.alloc _)
      by_cases q3 : 1000 < s.value.length
      · have hst2 := Lib.hid (hst.out.trans (if_pos (.inl (by simp [allowedB]; omega))))
        go_wp2
        go_ret3
        exact Checked.bad hst2.out (hw.alloc _)
      have hal : allowedB s.key s.value = true := allowedB_iff.2 ⟨by omega, by omega, by omega⟩
      have hal2 := Lib.hid hal
      clear hal
      have B0 := Blk.new wr 29 #[.slice A1 s.key.length c1, .slice A2 s.value.length c2, .int .u64 s.left, .int .u64 s.right]
      have hw0 := hw.alloc (.cells #[.slice A1 s.key.length c1, .slice A2 s.value.length c2, .int .u64 s.left, .int .u64 s.right] 29)
      have b1' := b1.alloc (.cells #[.slice A1 s.key.length c1, .slice A2 s.value.length c2, .int .u64 s.left, .int .u64 s.right] 29)
      have b2' := b2.alloc (.cells #[.slice A1 s.key.length c1, .slice A2 s.value.length c2, .int .u64 s.left, .int .u64 s.right] 29)
      clear b1 b2 him hb
      go_wp2_with fail
      clear e0 e1 e2 e3
      refine (digestOf_any seed s.left s.right A1 A2 _ c1 _ c2 s.key s.value _ b1' b2' (by omega) (by omega) p1 p2).mono ?_
      rintro e w2 ⟨rfl, hk2⟩
      have B1 := B0.keep hk2 (fun x => x)
      have hw1 := hw0.trans hk2 (fun _ x => x.elim)
      have b1 := b1'.new_ hk2
      have b2 := b2'.new_ hk2
      have f0 := B1.cell 0
      have f1 := B1.cell 1
      have f2 := B1.cell 2
      have f3 := B1.cell 3
      simp only [List.getElem?_toArray, List.getElem?_cons_zero, List.getElem?_cons_succ] at f0 f1 f2 f3
      generalize wr.heap.size = nb at *
      clear b1' b2' B0 hw0 hk2 B1
      by_cases q4 : mark seed s.left s.key s.value s.right = g
      · have hg : (mark seed s.left s.key s.value s.right != g) = false := by simp [q4]
        have hst2 := Lib.hid (hst.out.trans (if_neg (by rw [hal2.out, q4]; simp)))
        clear hst
        clear q4
        go_wp2_with fail
        have hcb := bcompare A A1 _ c _ c1 key s.key _ (HK.out.new_ hw1) b1
        rcases lt_tri key s.key with ho | ho | ho
        · rw [cb_lt ho] at hcb
          have hst3 := Lib.hid (hst2.out.trans ((if_neg (lt_ne ho)).trans (by rw [if_pos ho])))
          clear hst2
          refine hcb.mono ?_
          rintro e w3 ⟨rfl, rfl⟩
          clear hcb
          go_wp2
          go_roundw
          case rel => exact ⟨k + 1, s.left, by omega, by go_num, rfl, hst3, hw1⟩
          case measure => simp [intOf]; omega
        · rw [cb_eq.2 ho] at hcb
          by_cases q5 : k + 1 = l.length
          · have hst3 := Lib.hid (hst2.out.trans ((if_pos ho).trans (if_pos q5)))
            clear hst2
            have q6 : ((k : Int) == (l.length : Int) - 1) = true := by simp; omega
            clear ho q5
            refine hcb.mono ?_
            rintro e w3 ⟨rfl, rfl⟩
            clear hcb
            go_wp2_with fail
            refine (bclone A2 _ c2 s.value _ b2 (by omega)).mono ?_
            rintro e w4 ⟨A4, c4, rfl, _, ho4, hk4⟩
            go_wp2
            go_ret3
            exact Checked.yes hst3.out (hw1.trans hk4 (fun _ x => x.elim)) (Bytes.of_own ho4)
          · have hst3 := Lib.hid (hst2.out.trans ((if_pos ho).trans (if_neg q5)))
            clear hst2
            have q6 : ((k : Int) == (l.length : Int) - 1) = false := by simp; omega
            clear ho q5
            refine hcb.mono ?_
            rintro e w3 ⟨rfl, rfl⟩
            clear hcb
            go_wp2
            go_ret3
            exact Checked.bad hst3.out hw1
        · rw [cb_gt ho] at hcb
          have hst3 := Lib.hid (hst2.out.trans ((if_neg (lt_ne ho).symm).trans (by rw [if_neg (lt_asymm ho)])))
          clear hst2
          refine hcb.mono ?_
          rintro e w3 ⟨rfl, rfl⟩
          clear hcb
          go_wp2
          go_roundw
          case rel => exact ⟨k + 1, s.right, by omega, by go_num, rfl, hst3, hw1⟩
          case measure => simp [intOf]; omega
      · have hg : (mark seed s.left s.key s.value s.right != g) = true := by simp [q4]
        have hst2 := Lib.hid (hst.out.trans (if_pos (.inr q4)))
        clear hst q4
        go_wp2
        go_ret3
        exact Checked.bad hst2.out hw1
    · have hkl : k = l.length := by omega
      have hst := Lib.hid (hI.out.trans (show _ = (if g = 0 then some none else none) by rw [List.drop_of_length_le (by omega)]; exact chk_nil seed key g))
      subst hkl
      by_cases q : g = 0
      · have hg : (g != 0) = false := by simp [q]
        have hst2 := Lib.hid (hst.out.trans (if_pos q))
        clear hst q
        go_wp2
        go_ret3
        exact Checked.no hst2.out hw
      · have hg : (g != 0) = true := by simp [q]
        have hst2 := Lib.hid (hst.out.trans (if_neg q))
        clear hst q
        go_wp2
        go_ret3
        exact Checked.bad hst2.out hw

end Go.Proofs.Ytdmckjojeddaaaa

namespace Go.Proofs.Ytdmckjojeddaaaa
open Go.Proofs.YtdmckjojeddaaaaKit Go.Proofs.YtdmckjojeddaaaaPlain

def PT.prove (seed : Int) (key : List UInt8) : PT → List Side
  | .nil => []
  | .node k v l r => ⟨k, v, l.sum seed, r.sum seed⟩ :: (if key = k then [] else if Lt key k then PT.prove seed key l else PT.prove seed key r)
/-- The proof of a key in the map of some pairs. -/
def proveL (seed : Int) (l : PairL) (key : List UInt8) : List Side := (build seed l).prove seed key
theorem chk_prove {seed : Int} {key : List UInt8} {t : AT} (hok : ∀ p ∈ t.toList, keyOk p.1 p.2) : chk seed key (t.sum seed) (t.shape.prove seed key) = some (t.find key).val := by
  induction t with
  | nil => rfl
  | node b k v l r ihl ihr =>
    have h0 : allowedB k v = true := allowedB_iff.2 (hok (k, v) (by simp [AT.toList]))
    have ih1 := ihl (fun p hp => hok p (by simp [AT.toList, hp]))
    have ih2 := ihr (fun p hp => hok p (by simp [AT.toList, hp]))
    simp only [AT.shape, PT.prove, chk, AT.sum, AT.find]
    rw [shape_sum, shape_sum, if_neg (by simp [h0])]
    by_cases hk : key = k
    · rw [if_pos hk, if_pos hk, if_pos rfl, if_pos hk]; rfl
    · rw [if_neg hk, if_neg hk, if_neg hk]
      by_cases hlt : Lt key k
      · rw [if_pos hlt, if_pos hlt, if_pos hlt]; exact ih1
      · rw [if_neg hlt, if_neg hlt, if_neg hlt]; exact ih2
theorem chk_proveL {seed : Int} {key : List UInt8} {t : AT} (h : WF seed t) (hok : ∀ p ∈ t.toList, keyOk p.1 p.2) : chk seed key (digest seed t.toList) (proveL seed t.toList key) = some (getL t.toList key) := by
  rw [proveL, ← shape_build h, ← digest_eq h, chk_prove hok, getL_find h.sorted]
theorem prove_mem {seed : Int} {key : List UInt8} {t : AT} (P : List UInt8 × List UInt8 → Prop) (hP : ∀ p ∈ t.toList, P p) : ∀ s ∈ t.shape.prove seed key, P (s.key, s.value) ∧ 0 ≤ s.left ∧ 0 ≤ s.right := by
  induction t with
  | nil => intro s hs; cases hs
  | node b k v l r ihl ihr =>
    intro s hs
    simp only [AT.shape, PT.prove] at hs
    rcases List.mem_cons.1 hs with rfl | hs
    · refine ⟨hP (k, v) (by simp [AT.toList]), ?_, ?_⟩
      · show 0 ≤ l.shape.sum seed
        rw [shape_sum]; exact AT.sum_nonneg _ _
      · show 0 ≤ r.shape.sum seed
        rw [shape_sum]; exact AT.sum_nonneg _ _
    · split at hs
      · cases hs
      · split at hs
        · exact ihl (fun p hp => hP p (by simp [AT.toList, hp])) s hs
        · exact ihr (fun p hp => hP p (by simp [AT.toList, hp])) s hs
theorem prove_length (seed : Int) (key : List UInt8) (t : PT) : (t.prove seed key).length ≤ t.size := by
  induction t with
  | nil => exact Nat.le_refl _
  | node k v l r ihl ihr =>
    simp only [PT.prove, PT.size, List.length_cons]
    split
    · simp; omega
    · split <;> omega
theorem proveL_mem {seed : Int} {key : List UInt8} {t : AT} (h : WF seed t) (hok : ∀ p ∈ t.toList, keyOk p.1 p.2) : ∀ s ∈ proveL seed t.toList key, keyOk s.key s.value ∧ 0 ≤ s.left ∧ 0 ≤ s.right := fun s hs => by
  rw [proveL, ← shape_build h] at hs
  exact prove_mem (fun p => keyOk p.1 p.2) hok s hs
theorem proveL_length (seed : Int) (l : PairL) (key : List UInt8) : (proveL seed l key).length ≤ l.length := by
  have := prove_length seed key (build seed l)
  rwa [build_size] at this
end Go.Proofs.Ytdmckjojeddaaaa
