/- Contracts of the reference's Get and SameSides. Conditions: the lengths are bounded. -/
import Derived.Test.YtdmckjojeddaaaaR1
import Derived.Test.YtdmckjojeddaaaaKit
import Derived.RegionTactic
import Derived.Deep.RegionHeld3
namespace Go.Proofs.Ytdmckjojeddaaaa
open Go.RowKit Go.Proofs.YtdmckjojeddaaaaKit Go.Proofs.YtdmckjojeddaaaaPlain

def GotRet (base : Nat) (w : World) (o : Option (List UInt8)) (e : Ending) (w' : World) : Prop :=
  Drawn w w' ∧ match o with
    | none => e = .returned (.tuple #[.slice none 0 0, .int .i64 3])
    | some v => ∃ A c, e = .returned (.tuple #[.slice A v.length c, .int .i64 0]) ∧ Bytes base w' A v.length v
theorem GotRet.no {base : Nat} {w w' : World} {o : Option (List UInt8)} (h : o = none) (k : Drawn w w') : GotRet base w o (.returned (.tuple #[.slice none 0 0, .int .i64 3])) w' := by subst h; exact ⟨k, rfl⟩
theorem GotRet.yes {base : Nat} {w w' : World} {o : Option (List UInt8)} {v : List UInt8} {A : Option Addr} {c : Nat} (h : o = some v) (k : Drawn w w') (hb : Bytes base w' A v.length v) : GotRet base w o (.returned (.tuple #[.slice A v.length c, .int .i64 0])) w' := by subst h; exact ⟨k, A, c, rfl, hb⟩

set_option maxHeartbeats 1000000 in
set_option maxRecDepth 100000 in
theorem rget_any {base b2 : Nat} (L A : Option Addr) (m d n c : Nat) (l : List Pair) (key : List UInt8) (w : World) (hl : Pairs base w L m l) (hk : Bytes b2 w A n key) (hs : Small l) (hn : n ≤ 1000000) (hm : m ≤ 1000000) :
    Calls Try.prog 29 #[.slice L m d, .slice A n c] w (GotRet base w (getL l key)) := by
  have HH := Lib.hid (rhas_any L A m d n c l key w hl hk hs hn hm)
  have HR := Lib.hid (fun q => rrank_any L A m d n c l key (w.drewN q) (hl.new_ ((Keep.refl No w).drewN q)) (hk.drewN q) hs hn hm)
  obtain rfl := hl.len (by omega)
  cases hh : hasL key l with
  | false =>
    have hg := Lib.hid (show getL l key = none by rw [getL, hh]; rfl)
    rw [hh] at HH
    clear hl hk hs hh
    go_enter Try.func29, Try.ntmps29
    go_wp2_with (go_at_call 51; refine HH.out.mono ?_; rintro e w' ⟨rfl, q, rfl⟩)
    go_ret2
    exact GotRet.no hg.out ⟨q, rfl⟩
  | true =>
    have hlt := hasL_rank hh
    have hg := Lib.hid (show getL l key = some (l[rank key l]).2 by rw [getL, hh, List.getElem?_eq_getElem hlt]; rfl)
    obtain ⟨ad, A1, c1, A2, c2, rfl, him, e0, e1, b1', b2'⟩ := hl.at_ hlt
    rw [hh] at HH
    generalize l[rank key l] = p at *
    generalize rank key l = r at *
    have HB := Lib.hid b2'
    have i0 : (0 : Int) ≤ (r : Int) := by omega
    have i1 : (r : Int) < (l.length : Int) := by omega
    clear hl hk hs hh him b1' b2' e0
    go_enter Try.func29, Try.ntmps29
    go_wp2_with (first
      | (go_at_call 51; refine HH.out.mono ?_; rintro e w' ⟨rfl, q, rfl⟩)
      | (go_at_call 47; refine (HR.out _).mono ?_; rintro e w' ⟨rfl, q2, rfl⟩))
    go_ret2
    exact GotRet.yes hg.out ((Drawn.refl w).step _) (HB.out.drewN _)

def SidesSmall (l : List Side) : Prop := ∀ s ∈ l, s.key.length ≤ 1000000 ∧ s.value.length ≤ 1000000

set_option maxHeartbeats 2000000 in
set_option maxRecDepth 100000 in
theorem samesides_any {b1 b2 : Nat} (L1 L2 : Option Addr) (m d m' d' : Nat) (l : List Side) (w : World) (h1 : Sides b1 w L1 m l) (h2 : Sides b2 w L2 m' l) (hs : SidesSmall l) (hm : m ≤ 1000000) :
    Calls Try.prog 30 #[.slice L1 m d, .slice L2 m' d'] w fun e w' => e = .returned (.bool true) ∧ Keep No w w' := by
  obtain rfl := h1.len (by omega)
  obtain rfl := h2.len (by omega)
  have H1 := Lib.hid (show _ ∧ _ ∧ _ from ⟨h1, h2, hs⟩)
  clear h1 h2 hs
  go_enter Try.func30, Try.ntmps30
  go_wp2
  go_loopw [5] (fun v5 wr => ∃ k : Nat, k ≤ l.length ∧ v5 = .int .i64 k ∧ Keep No w wr) (fun i _ => l.length - (intOf i).toNat)
  case atStart => exact ⟨0, Nat.zero_le _, rfl, Keep.refl _ _⟩
  case round =>
    obtain ⟨k, hk, rfl, hkw⟩ := hrel
    by_cases hlt : k < l.length
    · obtain ⟨ad, A1, c1, A2, c2, rfl, him, e0, e1, e2, e3, b1', b2', p1, p2⟩ := (H1.out.1.new_ hkw).at_ hlt
      obtain ⟨ad', A3, c3, A4, c4, rfl, him', g0, g1, g2, g3, b3', b4', _, _⟩ := (H1.out.2.1.new_ hkw).at_ hlt
      have hsk := H1.out.2.2 _ (List.getElem_mem hlt)
      have i0 : (0 : Int) ≤ (k : Int) := by omega
      have i1 : (k : Int) < (l.length : Int) := by omega
      generalize l[k] = s at *
      have hk1 := hsk.1
      have hk2 := hsk.2
      have hab := him.lt
      have hab' := him'.lt
      have HB := Lib.hid (show _ ∧ _ ∧ _ ∧ _ ∧ _ from ⟨b1', b2', b3', b4', hkw⟩)
      clear hsk him him' b1' b2' b3' b4' hkw
      go_wp2_with fail
      go_region_held3 (fun w' => w'.cell? (ad.add (k * 4)) = some (.slice A1 s.key.length c1) ∧ w'.cell? ⟨(ad.add (k * 4)).block, (ad.add (k * 4)).off + 1, none⟩ = some (.slice A2 s.value.length c2) ∧
          w'.cell? ⟨(ad.add (k * 4)).block, (ad.add (k * 4)).off + 2, none⟩ = some (.int .u64 s.left) ∧ w'.cell? ⟨(ad.add (k * 4)).block, (ad.add (k * 4)).off + 3, none⟩ = some (.int .u64 s.right) ∧
          w'.cell? (ad'.add (k * 4)) = some (.slice A3 s.key.length c3) ∧ w'.cell? ⟨(ad'.add (k * 4)).block, (ad'.add (k * 4)).off + 1, none⟩ = some (.slice A4 s.value.length c4) ∧
          w'.cell? ⟨(ad'.add (k * 4)).block, (ad'.add (k * 4)).off + 2, none⟩ = some (.int .u64 s.left) ∧ w'.cell? ⟨(ad'.add (k * 4)).block, (ad'.add (k * 4)).off + 3, none⟩ = some (.int .u64 s.right))
        (go_keep)
        (fail)
      all_goals
        have HC1 := Lib.hid (fun W (hk : Keep No wr W) => rcompare_any A1 A3 _ c1 _ c3 s.key s.key W (HB.out.1.new_ hk) (HB.out.2.2.1.new_ hk) (by omega) (by omega))
        have HC2 := Lib.hid (fun W (hk : Keep No wr W) => rcompare_any A2 A4 _ c2 _ c4 s.value s.value W (HB.out.2.1.new_ hk) (HB.out.2.2.2.1.new_ hk) (by omega) (by omega))
        rw [rcmp_eq.2 rfl] at HC1 HC2
        go_wp2_with fail
        refine (HC1.out _ (((Keep.refl No wr).alloc _).alloc _).drew).mono ?_
        rintro e w5 ⟨rfl, q, rfl⟩
        go_wp2_with fail
        refine (HC2.out _ (((Keep.refl No wr).alloc _).alloc _ |>.drewN _)).mono ?_
        rintro e w6 ⟨rfl, q', rfl⟩
        go_wp2
        go_roundw
        case rel => exact ⟨k + 1, by omega, by go_num, HB.out.2.2.2.2.trans ((((Keep.refl No wr).alloc _).alloc _).drewN _) (fun _ x => x.elim)⟩
        case measure => simp [intOf]; omega
    · have hkl : k = l.length := by omega
      subst hkl
      go_wp2
      go_ret
      exact ⟨rfl, hkw⟩
end Go.Proofs.Ytdmckjojeddaaaa
