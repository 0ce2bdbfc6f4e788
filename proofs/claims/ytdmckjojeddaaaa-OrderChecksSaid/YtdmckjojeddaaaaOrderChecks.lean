/- The law OrderChecks, walked: for all steps it returns true. Conditions: none but that the argument reads as data. -/
import Derived.Test.YtdmckjojeddaaaaC7
namespace Go.Proofs.Ytdmckjojeddaaaa
open Go.RowKit Go.Proofs.YtdmckjojeddaaaaKit Go.Proofs.YtdmckjojeddaaaaPlain

def Short (l : List Side) : Prop := ∀ s ∈ l, s.key.length ≤ 2000 ∧ s.value.length ≤ 2000
theorem Short.nil {l : List Side} : Short (l.take 0) := by intro s hs; simp at hs
theorem Short.succ {l : List Side} {k : Nat} (h : Short (l.take k)) (hk : k < l.length) (h1 : ¬ 2000 < l[k].key.length) (h2 : ¬ 2000 < l[k].value.length) : Short (l.take (k + 1)) := by
  intro s hs
  rw [List.take_succ_eq_append_getElem hk, List.mem_append] at hs
  rcases hs with hs | hs
  · exact h s hs
  · simp at hs; subst hs; omega

theorem Sides.nil_ {base : Nat} {w : World} : Sides base w none 0 [] := ⟨[], Reads.none_, Flat.nil⟩

def told : Option (Option (List UInt8)) → List UInt8 × Bool × Int
  | none => ([], false, 2)
  | some none => ([], false, 0)
  | some (some v) => (v, true, 0)
theorem Checked.told {base : Nat} {w : World} {o : Option (Option (List UInt8))} {e : Ending} {w' : World} (h : Checked base w o e w') :
    ∃ V c, e = .returned (.tuple #[.slice V (told o).1.length c, .bool (told o).2.1, .int .i64 (told o).2.2]) ∧ Bytes base w' V (told o).1.length (told o).1 ∧ Keep No w w' := by
  obtain ⟨hk, h⟩ := h
  rcases o with _ | _ | v
  · exact ⟨none, 0, h, Bytes.none_, hk⟩
  · exact ⟨none, 0, h, Bytes.none_, hk⟩
  · obtain ⟨A, c, e, hb⟩ := h
    exact ⟨A, c, e, hb, hk⟩
theorem chk_len {seed : Int} {key : List UInt8} {B : Nat} : ∀ {d : Int} {l : List Side}, (∀ s ∈ l, s.value.length ≤ B) → (told (chk seed key d l)).1.length ≤ B
  | d, [], _ => by rw [chk]; split <;> simp [Go.Proofs.Ytdmckjojeddaaaa.told]
  | d, s :: r, h => by
    rw [chk]
    split
    · simp [Go.Proofs.Ytdmckjojeddaaaa.told]
    · split
      · split
        · exact h s (by simp)
        · simp [Go.Proofs.Ytdmckjojeddaaaa.told]
      · exact chk_len (fun s hs => h s (by simp [hs]))

set_option maxHeartbeats 2000000 in
set_option maxRecDepth 100000 in
theorem orderChecks_walk (seed digest : Int) (A L : Option Addr) (n c m d : Nat) (key : List UInt8) (l : List Side) (w : World) (hk : Bytes w.heap.size w A n key) (hl : Sides w.heap.size w L m l) :
    Calls Try.prog 3 #[.agg #[.int .u64 seed, .int .u64 digest, .slice A n c, .slice L m d]] w fun e w' => e = .returned (.bool true) ∧ Keep No w w' := by
  obtain rfl := hk.len
  obtain rfl := hl.len (by omega)
  generalize hbase : w.heap.size = base at hk hl
  have HB := Lib.hid hbase
  have HK := Lib.hid hk
  have HL := Lib.hid hl
  clear hk hl hbase
  have hw := (Keep.refl No w).alloc (.cells #[.int .u64 seed, .int .u64 digest, .slice A key.length c, .slice L l.length d] 26)
  have HW := Lib.hid hw
  clear hw
  go_enter Try.func3, Try.ntmps3
  go_wp2_with fail
  go_quiet (fail)
  by_cases q1 : 400 < l.length
  · go_wp2
    go_ret
    exact ⟨rfl, HW.out.drewN _⟩
  by_cases q2 : 2000 < key.length
  · have hlong := Lib.hid (long_any A key.length c)
    go_wp2_with (go_at_call 15; refine (hlong.out _).mono ?_; rintro e w1 ⟨rfl, rfl⟩)
    go_ret
    exact ⟨rfl, HW.out.drewN _⟩
  have hlong : ∀ (A : Option Addr) (n c : Nat) (w : World), ¬ 2000 < n → Calls Try.prog 15 #[.slice A n c] w fun e w' => e = .returned (.bool false) ∧ w = w' := fun A n c w h => (long_any A n c w).mono fun e w' ⟨h1, h2⟩ => ⟨by rw [h1, decide_eq_false h], h2⟩
  have hlong2 : ∀ (A : Option Addr) (n c : Nat) (w : World), 2000 < n → Calls Try.prog 15 #[.slice A n c] w fun e w' => e = .returned (.bool true) ∧ w = w' := fun A n c w h => (long_any A n c w).mono fun e w' ⟨h1, h2⟩ => ⟨by rw [h1, decide_eq_true h], h2⟩
  have HG := Lib.hid hlong
  have HG2 := Lib.hid hlong2
  clear hlong hlong2
  go_wp2_with (go_at_call 15; refine (HG.out _ _ _ _ q2).mono ?_; rintro e w1 ⟨rfl, rfl⟩)
  obtain ⟨w1, hW1⟩ : ∃ x, x = World.drewN (w.alloc (.cells #[.int .u64 seed, .int .u64 digest, .slice A key.length c, .slice L l.length d] 26)) nq := ⟨_, rfl⟩
  rw [← hW1]
  have H1 := Lib.hid (show Keep No w w1 from hW1 ▸ HW.out.drewN nq)
  have K1 := Lib.hid (HK.out.new_ H1.out)
  have L1 := Lib.hid (HL.out.new_ H1.out)
  clear HW HK HL hW1 HB
  go_loop [7] (fun v7 => ∃ k : Nat, k ≤ l.length ∧ v7 = .int .i64 k ∧ Hid (Short (l.take k))) (fun i => l.length - (intOf i).toNat)
  case atStart => exact ⟨0, Nat.zero_le _, rfl, Lib.hid Short.nil⟩
  case round =>
    obtain ⟨k, hk, rfl, hS⟩ := hrel
    by_cases hlt : k < l.length
    · obtain ⟨ad, A1, c1, A2, c2, rfl, him, e0, e1, e2, e3, b1, b2, p1, p2⟩ := L1.out.at_ hlt
      have hsucc := Lib.hid (hS.out.succ hlt)
      generalize l[k] = s at *
      clear him b1 b2 p1 p2
      by_cases q3 : 2000 < s.key.length
      · go_wp2_with (go_at_call 15; refine (HG2.out _ _ _ _ q3).mono ?_; rintro e w1 ⟨rfl, rfl⟩)
        go_ret
        exact ⟨rfl, H1.out⟩
      · by_cases q4 : 2000 < s.value.length
        · go_wp2_with (first
            | (go_at_call 15; (with_reducible refine (HG.out _ _ _ _ q3).mono ?_); rintro e w1 ⟨rfl, rfl⟩)
            | (go_at_call 15; (with_reducible refine (HG2.out _ _ _ _ q4).mono ?_); rintro e w1 ⟨rfl, rfl⟩))
          go_ret
          exact ⟨rfl, H1.out⟩
        · go_wp2_with (first
            | (go_at_call 15; (with_reducible refine (HG.out _ _ _ _ q3).mono ?_); rintro e w1 ⟨rfl, rfl⟩)
            | (go_at_call 15; (with_reducible refine (HG.out _ _ _ _ q4).mono ?_); rintro e w1 ⟨rfl, rfl⟩))
          go_round
          case rel => exact ⟨k + 1, by omega, by go_num, Lib.hid (hsucc.out q3 q4)⟩
          case measure => simp [intOf]; omega
    · have hkl : k = l.length := by omega
      subst hkl
      have hv : ∀ s ∈ l, s.key.length ≤ 10000 ∧ s.value.length ≤ 10000 := by
        have := hS.out
        rw [List.take_length] at this
        intro s hs; have := this s hs; omega
      have HV := Lib.hid hv
      clear hv hS
      go_wp2_with fail
      have hlen := chk_len (seed := seed) (key := key) (d := digest) (l := l) (B := 10000) (fun s hs => (HV.out s hs).2)
      have C1 := Lib.hid (check_any seed digest A L _ c _ d key l w1 K1.out L1.out (by omega) HV.out)
      have C2 := Lib.hid (fun (w2 : World) (hk : Keep No w1 w2) => rcheck_any seed digest A L _ c _ d key l w2 (K1.out.new_ hk) (L1.out.new_ hk) (by omega) (by omega) HV.out)
      generalize chk seed key digest l = o at *
      refine C1.out.mono ?_
      rintro e w2 he
      obtain ⟨V1, d1, rfl, hb1, hk1⟩ := he.told
      have HB1 := Lib.hid hb1
      have HK1 := Lib.hid hk1
      clear C1 he hb1 hk1
      go_wp2_with fail
      refine (C2.out w2 HK1.out).mono ?_
      rintro e w3 he
      obtain ⟨V2, d2, rfl, hb2, hk2⟩ := he.told
      have HB2 := Lib.hid (show _ ∧ _ from ⟨HB1.out.new_ hk2, hb2⟩)
      have HK2 := Lib.hid (HK1.out.trans hk2 (fun _ x => x.elim))
      generalize (told o).1 = bs at *
      generalize (told o).2.1 = bt at *
      generalize (told o).2.2 = er at *
      clear C2 he hb2 hk2 HB1 HK1
      go_wp2_with fail
      refine (check_any seed 0 A none _ c 0 0 key [] w3 (K1.out.new_ HK2.out) Sides.nil_ (by omega) (fun s hs => by cases hs)).mono ?_
      rintro e w4 ⟨hk3, rfl⟩
      have HB3 := Lib.hid (show _ ∧ _ from ⟨HB2.out.1.new_ hk3, HB2.out.2.new_ hk3⟩)
      have HK3 := Lib.hid (HK2.out.trans hk3 (fun _ x => x.elim))
      clear HB2 HK2 hk3
      go_wp2_with fail
      refine (check_any seed 1 A none _ c 0 0 key [] w4 (K1.out.new_ HK3.out) Sides.nil_ (by omega) (fun s hs => by cases hs)).mono ?_
      rintro e w5 ⟨hk4, rfl⟩
      have HB4 := Lib.hid (show _ ∧ _ from ⟨HB3.out.1.new_ hk4, HB3.out.2.new_ hk4⟩)
      have HK4 := Lib.hid (HK3.out.trans hk4 (fun _ x => x.elim))
      clear HB3 HK3 hk4
      go_wp2_with fail
      refine (same_any V1 V2 _ d1 _ d2 bs bs w5 HB4.out.1 HB4.out.2 (by omega) (by omega)).mono ?_
      rintro e w6 ⟨rfl, q, rfl⟩
      rw [decide_eq_true (rfl : bs = bs)]
      go_wp2
      go_ret
      exact ⟨rfl, H1.out.trans (HK4.out.drewN q) (fun _ x => x.elim)⟩

end Go.Proofs.Ytdmckjojeddaaaa
