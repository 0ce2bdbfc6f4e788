/- Contract of built at any number of rows. Conditions: each names its own. -/
import Derived.Test.YtgabidgpngiecaaGreatLA0
namespace Go.Proofs.YtgabidgpngiecaaGreat
open Go.RowKit Go.Proofs.YtgabidgpngiecaaGreatKit Go.Proofs.YtgabidgpngiecaaGreatPlain Go.Sort

/-- The rows that built takes. -/
def takeOk (n : Nat) (l : List Row) : List Row := (l.take n).filter (fun r => decide (okRow r))
theorem takeOk_yes {n k : Nat} {l : List Row} {p : Row} (h : k < n) (hp : l[k]? = some p) (ho : okRow p) : takeOk n (l.take (k + 1)) = takeOk n (l.take k) ++ [p] := by
  unfold takeOk
  rw [List.take_take, List.take_take, Nat.min_eq_right (by omega), Nat.min_eq_right (by omega), List.take_add_one, hp, List.filter_append]
  simp [ho]
theorem takeOk_no {n k : Nat} {l : List Row} {p : Row} (hp : l[k]? = some p) (h : ¬ k < n ∨ ¬ okRow p) : takeOk n (l.take (k + 1)) = takeOk n (l.take k) := by
  unfold takeOk
  rw [List.take_take, List.take_take]
  by_cases hk : k < n
  · rw [Nat.min_eq_right (by omega), Nat.min_eq_right (by omega), List.take_add_one, hp, List.filter_append]
    simp [h.resolve_left (by omega)]
  · rw [Nat.min_eq_left (by omega), Nat.min_eq_left (by omega)]
theorem takeOk_all {n : Nat} {l : List Row} (h : ∀ r ∈ l, okRow r) : takeOk n l = l.take n := by
  unfold takeOk
  rw [List.filter_eq_self]
  intro r hr
  exact decide_eq_true (h r (List.mem_of_mem_take hr))
theorem takeOk_ok {n : Nat} {l : List Row} : ∀ r ∈ takeOk n l, okRow r := fun _ hr => of_decide_eq_true (List.mem_filter.1 hr).2
theorem takeOk_length (n : Nat) (l : List Row) : (takeOk n l).length ≤ n := Nat.le_trans (List.length_filter_le _ _) (by rw [List.length_take]; omega)

set_option maxHeartbeats 2000000 in
set_option maxRecDepth 100000 in
theorem built_of {base : Nat} {w : World} {A : Option Addr} {c : Nat} {l : List Row} (n : Nat) (hn : n ≤ 300) (h : RowsIn base w A l) (hmax : l.length ≤ maxLen) :
    Calls Tryz.prog 23 #[.slice A l.length c, .int .i64 n] w fun e w' => ∃ v R, e = .returned (.tuple #[.pointer (some ⟨w.heap.size + 1, 0, none⟩), v]) ∧ BI w w' (w.heap.size + 1) w.heap.size v R ∧ R = takeOk n l := by
  obtain ⟨i0, hi0, hz0, hz1, hz2⟩ := info_parts info_row
  have HA := Lib.hid h
  have HX := Lib.hid hmax
  have HN := Lib.hid hn
  clear h hmax hn
  go_enter Tryz.func23, Tryz.ntmps23
  go_wp2_with (go_at_call 5; refine (new_any w).mono ?_; rintro e w' ⟨rfl, rfl⟩)
  have HI := Lib.hid (show BI w ((w.alloc (.map #[] 0)).alloc (.cells #[.bool true, .map (some w.heap.size), .int .i64 0] 43)) (w.heap.size + 1) w.heap.size (.slice none 0 0) [] from
    ⟨Mdl.made (Nat.le_refl _), World.ownsRow_nil _ _ _ _, ((Keep.refl No w).alloc _).alloc _⟩)
  generalize (w.alloc (.map #[] 0)).alloc (.cells #[.bool true, .map (some w.heap.size), .int .i64 0] 43) = w1 at *
  go_loopw [7, 13] (fun v7 v13 wr => ∃ (k : Nat) (R : List Row), k ≤ l.length ∧ v13 = .int .i64 k ∧ Hid (BI w wr (w.heap.size + 1) w.heap.size v7 R) ∧ Hid (R.length ≤ k ∧ R.length ≤ 300 ∧ R = takeOk n (l.take k))) (fun _ i _ => l.length - (intOf i).toNat)
  case atStart => exact ⟨0, [], Nat.zero_le _, rfl, HI, Lib.hid ⟨Nat.le_refl _, Nat.zero_le _, by simp [takeOk]⟩⟩
  case round =>
    clear HI
    obtain ⟨k, R, hk, rfl, hI, hR⟩ := hrel
    by_cases hlt : k < l.length
    · obtain ⟨ad, rfl, hab, e0, e1, e2, e3⟩ := RowsIn.at_ (show RowsIn base wr A l from Reads.new_ HA.out hI.out.kp) hlt
      have HP := Lib.hid (show l[k]? = some l[k] from List.getElem?_eq_getElem hlt)
      generalize l[k] = p at *
      have j0 : (0 : Int) ≤ (k : Int) := by omega
      have j1 : (k : Int) < (l.length : Int) := by omega
      by_cases h3 : k < n
      · have d1 : decide ((k : Int) < (n : Int)) = true := decide_eq_true (by omega)
        have h300 : k < 300 := by have := HN.out; omega
        by_cases hp : okRow p
        · have HB0 := Lib.hid (Blk.new wr 30 #[.int .i64 p.a, .int .i64 p.b, .int .i64 p.c, .int .i64 p.l])
          have HI1 := Lib.hid (hI.out.new_ ((Keep.refl No wr).alloc (.cells #[.int .i64 p.a, .int .i64 p.b, .int .i64 p.c, .int .i64 p.l] 30)))
          have HL := Lib.hid (learn_yes p HI1.out.md hp (by have := hR.out.1; have := HN.out; omega))
          have HM := Lib.hid (hI.out.md.lt)
          have hRk := Lib.hid (show R.length ≤ k ∧ R.length < 300 from by have := hR.out.1; have := HN.out; omega)
          have HT := Lib.hid (show R ++ [p] = takeOk n (l.take (k + 1)) from by rw [takeOk_yes h3 HP.out hp, ← hR.out.2.2])
          unfold Row.v at HL
          clear hI hR hp
          go_wp2_with (first
            | (go_at_call 9; refine HL.out.mono ?_; rintro e w3 ⟨rfl, hm3, hk3⟩
               have hB3 := HB0.out.keep hk3 (fun e => by have := HM.out; omega)
               have g0 := hB3.cell 0
               have g1 := hB3.cell 1
               have g2 := hB3.cell 2
               have g3 := hB3.cell 3
               simp only [List.getElem?_toArray, List.getElem?_cons_zero, List.getElem?_cons_succ] at g0 g1 g2 g3
               have H3 := Lib.hid (show _ ∧ _ from ⟨hm3, hk3⟩); clear hm3 hk3 hB3)
            | (at_builtin; refine wpList_append_any _ rfl (.tmp 31) (.tmp 33) _ rfl w.heap.size 30 i0 _ 4 32 Tryz.underlying27 hi0 hz0 hz1 hz2 rfl (by omega) _ _ _ rfl (HI1.out.own3 H3.out.2 _) 0 _ 1 1 p.cells rfl (row_new p) (row_one p) (by have := hRk.out; simp [maxLen]; omega) (by have := hRk.out; omega) (by have := HI1.out.kp.size; have := H3.out.2.size; simp at *; omega) ?_
               intro v4 w4 hown4 hg4 _; have H4 := Lib.hid (HI1.out.learn H3.out.1 H3.out.2 _ hown4 hg4); clear hown4 hg4))
          go_roundw
          case rel => exact ⟨k + 1, R ++ [p], by omega, by go_num, H4, Lib.hid ⟨by have := hRk.out; simp; omega, by have := hRk.out; simp; omega, HT.out⟩⟩
          case measure => simp [intOf]; omega
        · have HT := Lib.hid (show R = takeOk n (l.take (k + 1)) from by rw [takeOk_no HP.out (.inr hp), ← hR.out.2.2])
          have HL := Lib.hid (fun W (hW : Keep No wr W) => learn_bad p (hI.out.new_ hW).md hp)
          unfold Row.v at HL
          go_wp2_with (go_at_call 9; refine (HL.out _ ((Keep.refl No wr).alloc _)).mono ?_; rintro e w' ⟨rfl, hk'⟩; have HK := Lib.hid (((Keep.refl No wr).alloc _).trans hk' (fun _ x => x.elim)); clear hk')
          go_roundw
          case measure => simp [intOf]; omega
          case rel => exact ⟨k + 1, R, by omega, by go_num, Lib.hid (hI.out.new_ HK.out), Lib.hid ⟨by have := hR.out.1; omega, hR.out.2.1, HT.out⟩⟩
      · have d1 : decide ((k : Int) < (n : Int)) = false := decide_eq_false (by omega)
        have hw64 := w64 HX.out hlt
        have HW := Lib.hid hw64
        clear hw64
        go_wp2_with fail
        try rw [HW.out]
        clear HX HW
        go_roundw
        case rel =>
          have HI2 := Lib.hid (hI.out.new_ ((Keep.refl No wr).alloc (.cells #[.int .i64 p.a, .int .i64 p.b, .int .i64 p.c, .int .i64 p.l] 30)))
          have HR2 := Lib.hid (show R.length ≤ k + 1 ∧ R.length ≤ 300 ∧ R = takeOk n (l.take (k + 1)) from ⟨by have := hR.out.1; omega, hR.out.2.1, by rw [takeOk_no HP.out (.inl h3), ← hR.out.2.2]⟩)
          exact ⟨k + 1, R, hlt, by go_num, HI2, HR2⟩
        case measure =>
          simp [intOf]
          omega
    · have hkL : k = l.length := by omega
      subst hkL
      have j1 : (l.length : Int) ≤ (l.length : Int) := Int.le_refl _
      go_wp2
      go_ret2
      exact ⟨_, R, rfl, hI.out, by rw [hR.out.2.2, List.take_length]⟩
end Go.Proofs.YtgabidgpngiecaaGreat
