/- Contracts of the reference's Compare, Allowed, Toward and of the laws' same, long. Conditions: each names its own. -/
import Derived.Test.YtdmckjojeddaaaaC1
import Derived.Test.YtdmckjojeddaaaaP1
import Derived.BigQuiet
namespace Go.Proofs.Ytdmckjojeddaaaa
open Go.RowKit Go.Proofs.YtdmckjojeddaaaaKit Go.Proofs.YtdmckjojeddaaaaPlain

/-- The world is the old one, some orders having been drawn. -/
def Drawn (w w' : World) : Prop := ∃ q, w' = w.drewN q
theorem Drawn.refl (w : World) : Drawn w w := ⟨0, rfl⟩
theorem Drawn.step {w w' : World} (h : Drawn w w') (q : Nat) : Drawn w (w'.drewN q) := by
  obtain ⟨m, rfl⟩ := h
  exact ⟨m + q, World.drewN_drewN ..⟩
theorem Drawn.trans {w w1 w2 : World} (h : Drawn w w1) (k : Drawn w1 w2) : Drawn w w2 := by
  obtain ⟨m, rfl⟩ := k
  exact h.step m
theorem Drawn.keep {S : Nat → Prop} {w w1 w2 : World} (h : Keep S w w1) (k : Drawn w1 w2) : Keep S w w2 := by
  obtain ⟨m, rfl⟩ := k
  exact h.drewN m

set_option maxHeartbeats 1000000 in
set_option maxRecDepth 100000 in
theorem rcompare_any {b1 b2 : Nat} (A B : Option Addr) (n c m d : Nat) (xs ys : List UInt8) (w : World) (h : Bytes b1 w A n xs) (k : Bytes b2 w B m ys) (hn : n ≤ 140737488351232) (hm : m ≤ 140737488351232) :
    Calls Try.prog 24 #[.slice A n c, .slice B m d] w fun e w' => e = .returned (.int .i64 (rcmp xs ys)) ∧ Drawn w w' := by
  obtain rfl := h.len
  obtain rfl := k.len
  have H := Lib.hid h
  have K := Lib.hid k
  clear h k
  go_enter Try.func24, Try.ntmps24
  go_wp2
  go_loopw [5] (fun v5 wr => ∃ k : Nat, k ≤ xs.length ∧ k ≤ ys.length ∧ v5 = .int .i64 k ∧ Hid (rcmp xs ys = rcmp (xs.drop k) (ys.drop k)) ∧ Drawn w wr) (fun i _ => xs.length - (intOf i).toNat)
  case atStart => exact ⟨0, Nat.zero_le _, Nat.zero_le _, rfl, rfl, Drawn.refl _⟩
  case round =>
    obtain ⟨k, hk, hk', rfl, he, hd⟩ := hrel
    obtain ⟨q, rfl⟩ := hd
    by_cases h1 : k < xs.length
    · by_cases h2 : k < ys.length
      · obtain ⟨ad, rfl, hc⟩ := H.out.at_ h1
        obtain ⟨bd, rfl, hd⟩ := K.out.at_ h2
        have hx : (xs.getD k 0) = xs[k] := by simp [List.getD, h1]
        have hy : (ys.getD k 0) = ys[k] := by simp [List.getD, h2]
        rw [hx] at hc
        rw [hy] at hd
        clear hx hy
        have hs := Lib.hid (rcmp_drop xs ys k h1 h2 he.out)
        generalize ex : xs[k] = x at *
        generalize ey : ys[k] = y at *
        have bx := x.toNat_lt
        have by' := y.toNat_lt
        clear ex ey he
        have i0 : (0 : Int) ≤ (k : Int) := by omega
        have i1 : (k : Int) < (xs.length : Int) := by omega
        have i2 : (k : Int) < (ys.length : Int) := by omega
        by_cases hxy : x = y
        · subst hxy
          go_wp2
          go_quiet (fail)
          go_wp2
          go_roundw
          case rel => exact ⟨k + 1, by omega, by omega, by go_num, hs.out.trans (if_pos trivial), ⟨_, rfl⟩⟩
          case measure => simp [intOf]; omega
        · have hn : ((x.toNat : Int) = (y.toNat : Int)) = False := by
            rw [eq_iff_iff]; constructor
            · intro e; exact hxy (UInt8.toNat_inj.1 (by omega))
            · intro e; exact e.elim
          have hne : ((x.toNat : Int) == (y.toNat : Int)) = false := by simp [hn]
          have hne2 : ((x.toNat : Int) != (y.toNat : Int)) = true := by simp [hn]
          have hs2 := Lib.hid (hs.out.trans (if_neg hxy))
          clear hs hxy hn
          go_wp2
          go_quiet (fail)
          go_wp2
          go_quiet (fail)
          go_wp2
          go_ret
          exact ⟨ret_u64 hs2.out.symm, ((Drawn.refl w).step q |>.step _).step _⟩
      · have hz := Lib.hid (rcmp_end xs ys k hk hk' (fun h => h2 h.2) he.out)
        go_wp2
        go_ret
        exact ⟨ret_u64 hz.out.symm, ⟨q, rfl⟩⟩
    · have hz := Lib.hid (rcmp_end xs ys k hk hk' (fun h => h1 h.1) he.out)
      go_wp2
      go_ret
      exact ⟨ret_u64 hz.out.symm, ⟨q, rfl⟩⟩

def allowedB (k v : List UInt8) : Bool := decide (1 ≤ k.length ∧ k.length ≤ 64 ∧ v.length ≤ 1000)
theorem allowedB_iff {k v : List UInt8} : allowedB k v = true ↔ 1 ≤ k.length ∧ k.length ≤ 64 ∧ v.length ≤ 1000 := by simp [allowedB]
theorem ret_bool {a b : Bool} (h : a = b) : Ending.returned (.bool a) = .returned (.bool b) := by rw [h]

set_option maxHeartbeats 400000 in
set_option maxRecDepth 100000 in
theorem rallowed_any {b1 b2 : Nat} (A B : Option Addr) (n c m d : Nat) (xs ys : List UInt8) (w : World) (h : Bytes b1 w A n xs) (k : Bytes b2 w B m ys) :
    Calls Try.prog 40 #[.slice A n c, .slice B m d] w fun e w' => e = .returned (.bool (allowedB xs ys)) ∧ w = w' := by
  obtain rfl := h.len
  obtain rfl := k.len
  clear h k
  by_cases h1 : 1 ≤ xs.length
  · by_cases h2 : xs.length ≤ 64
    · go_enter Try.func40, Try.ntmps40
      go_wp2
      go_ret
      refine ⟨ret_bool ?_, rfl⟩
      simp [allowedB, h1, h2]; omega
    · go_enter Try.func40, Try.ntmps40
      go_wp2
      go_ret
      refine ⟨ret_bool ?_, rfl⟩
      simp [allowedB, h1, h2]
  · go_enter Try.func40, Try.ntmps40
    go_wp2
    go_ret
    refine ⟨ret_bool ?_, rfl⟩
    simp [allowedB, h1]

set_option maxHeartbeats 400000 in
set_option maxRecDepth 100000 in
theorem same_any {b1 b2 : Nat} (A B : Option Addr) (n c m d : Nat) (xs ys : List UInt8) (w : World) (h : Bytes b1 w A n xs) (k : Bytes b2 w B m ys) (hn : n ≤ 140737488351232) (hm : m ≤ 140737488351232) :
    Calls Try.prog 18 #[.slice A n c, .slice B m d] w fun e w' => e = .returned (.bool (decide (xs = ys))) ∧ Drawn w w' := by
  have H := Lib.hid (rcompare_any A B n c m d xs ys w h k hn hm)
  clear h k
  go_enter Try.func18, Try.ntmps18
  go_wp2_with fail
  refine H.out.mono ?_
  rintro e w' ⟨rfl, q, rfl⟩
  go_wp2
  go_ret
  refine ⟨ret_bool ?_, ⟨q, rfl⟩⟩
  rw [Bool.eq_iff_iff]
  simp [rcmp_eq]

set_option maxHeartbeats 400000 in
theorem long_any (A : Option Addr) (n c : Nat) (w : World) :
    Calls Try.prog 15 #[.slice A n c] w fun e w' => e = .returned (.bool (decide (2000 < n))) ∧ w = w' := by
  go_enter Try.func15, Try.ntmps15
  go_wp2
  go_ret
  exact ⟨ret_bool (by simp; omega), rfl⟩

theorem quiet_drawn2 {P : Program} {f : FuncId} {args : Array Value} {w : World} {a : Nat} {v : Value} (h : Calls P f args (w.drewN a) fun e w' => e = .returned v ∧ Drawn (w.drewN a) w') :
    Calls P f args (w.drewN a) fun e w'' => e = .returned v ∧ ∃ m, w'' = w.drewN m :=
  h.mono fun _ _ ⟨he, q, hw⟩ => ⟨he, a + q, by rw [hw, World.drewN_drewN]⟩
end Go.Proofs.Ytdmckjojeddaaaa
