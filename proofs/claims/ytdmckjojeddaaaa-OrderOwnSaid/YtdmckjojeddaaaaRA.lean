/- Contracts of the reference's SamePairs and SameNodes on equal lists. Conditions: the lengths are bounded. -/
import Derived.Test.YtdmckjojeddaaaaR6
import Derived.Test.YtdmckjojeddaaaaR8
import Derived.Deep.QuietTactic
import Derived.Deep.LoopGhost
import Derived.Deep.DeepCutAuto
namespace Go.Proofs.Ytdmckjojeddaaaa
open Go.RowKit Go.Proofs.YtdmckjojeddaaaaKit Go.Proofs.YtdmckjojeddaaaaPlain

set_option maxHeartbeats 2000000 in
set_option maxRecDepth 100000 in
theorem samepairs_any {b1 b2 : Nat} (L1 L2 : Option Addr) (m d m' d' : Nat) (l : List Pair) (w : World) (h1 : Pairs b1 w L1 m l) (h2 : Pairs b2 w L2 m' l) (hs : Small l) (hm : m ≤ 1000000) :
    Calls Try.prog 46 #[.slice L1 m d, .slice L2 m' d'] w fun e w' => e = .returned (.bool true) ∧ Drawn w w' := by
  obtain rfl := h1.len (by omega)
  obtain rfl := h2.len (by omega)
  have H1 := Lib.hid (show _ ∧ _ ∧ _ from ⟨h1, h2, hs⟩)
  clear h1 h2 hs
  go_enter Try.func46, Try.ntmps46
  go_wp2
  go_loopw [5] (fun v5 wr => ∃ k : Nat, k ≤ l.length ∧ v5 = .int .i64 k ∧ Drawn w wr) (fun i _ => l.length - (intOf i).toNat)
  case atStart => exact ⟨0, Nat.zero_le _, rfl, Drawn.refl _⟩
  case round =>
    obtain ⟨k, hk, rfl, hdr⟩ := hrel
    have hkn : Keep No w wr := by obtain ⟨q, rfl⟩ := hdr; exact (Keep.refl No w).drewN q
    have HDR := Lib.hid hdr
    clear hdr
    by_cases hlt : k < l.length
    · obtain ⟨ad, A1, c1, A2, c2, rfl, him, e0, e1, b1', b2'⟩ := (Pairs.new_ H1.out.1 hkn).at_ hlt
      obtain ⟨ad', A3, c3, A4, c4, rfl, him', g0, g1, b3', b4'⟩ := (Pairs.new_ H1.out.2.1 hkn).at_ hlt
      have hsk := H1.out.2.2 _ (List.getElem_mem hlt)
      have i0 : (0 : Int) ≤ (k : Int) := by omega
      have i1 : (k : Int) < (l.length : Int) := by omega
      generalize l[k] = s at *
      have hk1 := hsk.1
      have hk2 := hsk.2
      have HC1 := Lib.hid (fun a => rcompare_any A1 A3 _ c1 _ c3 s.1 s.1 (wr.drewN a) (b1'.drewN a) (b3'.drewN a) (by omega) (by omega))
      have HC2 := Lib.hid (fun a => rcompare_any A2 A4 _ c2 _ c4 s.2 s.2 (wr.drewN a) (b2'.drewN a) (b4'.drewN a) (by omega) (by omega))
      rw [rcmp_eq.2 rfl] at HC1 HC2
      clear hsk him him' b1' b2' b3' b4' hkn
      go_wp2_with fail
      go_quiet ((first
        | (go_at_call_of 24 (Value.slice A1 s.1.length c1); exact quiet_drawn2 (HC1.out _))
        | (go_at_call_of 24 (Value.slice A2 s.2.length c2); exact quiet_drawn2 (HC2.out _))))
      go_wp2
      go_roundw
      case rel => exact ⟨k + 1, by omega, by go_num, HDR.out.step _⟩
      case measure => simp [intOf]; omega
    · have hkl : k = l.length := by omega
      subst hkl
      go_wp2
      go_ret
      exact ⟨rfl, HDR.out⟩

set_option maxHeartbeats 4000000 in
set_option maxRecDepth 100000 in
theorem samenodes_any {base : Nat} (L1 L2 : Option Addr) (m d m' d' : Nat) (l : List NodeV) (w : World) (h1 : NodesAt base w L1 m l) (h2 : NodesAt base w L2 m' l) (hs : ∀ x ∈ l, keyOk x.key x.value) (hm : m ≤ 1000000) :
    Calls Try.prog 53 #[.slice L1 m d, .slice L2 m' d'] w fun e w' => e = .returned (.bool true) ∧ Keep No w w' := by
  obtain rfl := h1.len (by omega)
  obtain rfl := h2.len (by omega)
  have H1 := Lib.hid (show _ ∧ _ ∧ _ from ⟨h1, h2, hs⟩)
  clear h1 h2 hs
  go_enter Try.func53, Try.ntmps53
  go_wp2
  go_loopw [5] (fun v5 wr => ∃ k : Nat, k ≤ l.length ∧ v5 = .int .i64 k ∧ Keep No w wr) (fun i _ => l.length - (intOf i).toNat)
  case atStart => exact ⟨0, Nat.zero_le _, rfl, Keep.refl _ _⟩
  case round =>
    obtain ⟨k, hk, rfl, hkw⟩ := hrel
    by_cases hlt : k < l.length
    · have hgx := List.getElem?_eq_getElem hlt
      obtain ⟨ad, A1, c1, A2, c2, rfl, him, e0, e1, e2, e3, e4, e5, b1', b2'⟩ := (NodesAt.new_ H1.out.1 hkw).at_ hgx
      obtain ⟨ad', A3, c3, A4, c4, rfl, him', g0, g1, g2, g3, g4, g5, b3', b4'⟩ := (NodesAt.new_ H1.out.2.1 hkw).at_ hgx
      have hsk := H1.out.2.2 _ (List.getElem_mem hlt)
      have i0 : (0 : Int) ≤ (k : Int) := by omega
      have i1 : (k : Int) < (l.length : Int) := by omega
      clear hgx
      generalize l[k] = s at *
      have hk1 := hsk.2.1
      have hk2 := hsk.2.2
      have HB := Lib.hid (show _ ∧ _ ∧ _ ∧ _ ∧ _ from ⟨b1', b2', b3', b4', hkw⟩)
      clear hsk him him' b1' b2' b3' b4' hkw
      go_wp2_with fail
      go_region_held3 (fun w' => w'.cell? (ad.add (k * 6)) = some (.slice A1 s.key.length c1) ∧ w'.cell? ⟨(ad.add (k * 6)).block, (ad.add (k * 6)).off + 1, none⟩ = some (.slice A2 s.value.length c2) ∧
          w'.cell? ⟨(ad.add (k * 6)).block, (ad.add (k * 6)).off + 2, none⟩ = some (.int .u64 s.digest) ∧ w'.cell? ⟨(ad.add (k * 6)).block, (ad.add (k * 6)).off + 3, none⟩ = some (.int .i64 (s.size : Nat)) ∧
          w'.cell? ⟨(ad.add (k * 6)).block, (ad.add (k * 6)).off + 4, none⟩ = some (.int .i64 s.left) ∧ w'.cell? ⟨(ad.add (k * 6)).block, (ad.add (k * 6)).off + 5, none⟩ = some (.int .i64 s.right) ∧
          w'.cell? (ad'.add (k * 6)) = some (.slice A3 s.key.length c3) ∧ w'.cell? ⟨(ad'.add (k * 6)).block, (ad'.add (k * 6)).off + 1, none⟩ = some (.slice A4 s.value.length c4) ∧
          w'.cell? ⟨(ad'.add (k * 6)).block, (ad'.add (k * 6)).off + 2, none⟩ = some (.int .u64 s.digest) ∧ w'.cell? ⟨(ad'.add (k * 6)).block, (ad'.add (k * 6)).off + 3, none⟩ = some (.int .i64 (s.size : Nat)) ∧
          w'.cell? ⟨(ad'.add (k * 6)).block, (ad'.add (k * 6)).off + 4, none⟩ = some (.int .i64 s.left) ∧ w'.cell? ⟨(ad'.add (k * 6)).block, (ad'.add (k * 6)).off + 5, none⟩ = some (.int .i64 s.right))
        (go_keep)
        (fail)
      all_goals
        have HC1 := Lib.hid (fun W (hk : Keep No wr W) => rcompare_any A1 A3 _ c1 _ c3 s.key s.key W (HB.out.1.new_ hk) (HB.out.2.2.1.new_ hk) (by omega) (by omega))
        have HC2 := Lib.hid (fun W (hk : Keep No wr W) => rcompare_any A2 A4 _ c2 _ c4 s.value s.value W (HB.out.2.1.new_ hk) (HB.out.2.2.2.1.new_ hk) (by omega) (by omega))
        rw [rcmp_eq.2 rfl] at HC1 HC2
        go_wp2_with fail
        refine (HC1.out _ (((Keep.refl No wr).alloc _).alloc _).drew).mono ?_
        rintro e w5 ⟨rfl, q, rfl⟩
        go_wp2_with fail
        refine (HC2.out _ (((Keep.refl No wr).alloc _).alloc _ |>.drewN _)).mono ?_
        rintro e w6 ⟨rfl, q', rfl⟩
        go_wp2
        go_roundw
        case rel => exact ⟨k + 1, by omega, by go_num, HB.out.2.2.2.2.trans ((((Keep.refl No wr).alloc _).alloc _).drewN _) (fun _ x => x.elim)⟩
        case measure => simp [intOf]; omega
    · have hkl : k = l.length := by omega
      subst hkl
      go_wp2
      go_ret
      exact ⟨rfl, hkw⟩
end Go.Proofs.Ytdmckjojeddaaaa
