/- Contract of learn's tell at sums. Conditions: each names its own. -/
import Derived.Test.YtgabidgpngiecaaGreatL5
import Derived.Test.YtgabidgpngiecaaGreatL6
namespace Go.Proofs.YtgabidgpngiecaaGreat
open Go.RowKit Go.Proofs.YtgabidgpngiecaaGreatKit Go.Proofs.YtgabidgpngiecaaGreatPlain

/-- Block g holds the sums of these rows. -/
def SmAt (w : World) (g by_ of_ : Nat) (l : List (Row × Nat)) : Prop :=
  Sm w g by_ of_ (sume (fun _ => 1) l) (sume (fun r => r.x by_) l) (sume (fun r => r.x of_) l) (sume (fun r => r.x by_ * r.x by_) l) (sume (fun r => r.x by_ * r.x of_) l)
theorem sume_push (f : Row → Int) (p : Row × Nat) : ∀ l : List (Row × Nat), sume f (l ++ [p]) = sume f l + (p.2 : Int) * f p.1
  | [] => by simp [sume]
  | q :: l => by
    rw [List.cons_append, sume, sume, sume_push f p l]
    omega
theorem SmAt.push {w : World} {g by_ of_ : Nat} {l : List (Row × Nat)} {p : Row × Nat}
    (h : Sm w g by_ of_ (sume (fun _ => 1) l + p.2) (sume (fun r => r.x by_) l + p.2 * p.1.x by_) (sume (fun r => r.x of_) l + p.2 * p.1.x of_) (sume (fun r => r.x by_ * r.x by_) l + p.2 * p.1.x by_ * p.1.x by_) (sume (fun r => r.x by_ * r.x of_) l + p.2 * p.1.x by_ * p.1.x of_)) : SmAt w g by_ of_ (l ++ [p]) := by
  unfold SmAt
  rw [sume_push, sume_push, sume_push, sume_push, sume_push, Int.mul_one, ← Int.mul_assoc, ← Int.mul_assoc]
  exact h
theorem mid_sume {f : Row → Int} {l : List (Row × Nat)} (hl : (expand l).length ≤ 500) (hf : ∀ p ∈ l, -1000000 ≤ f p.1 ∧ f p.1 ≤ 1000000) : Mid (sume f l) := by
  rw [sume_expand]
  have h := sumf_bound (f := f) (l := expand l) (k := 1000000) (fun r hr => by
    obtain ⟨n, h1, _⟩ := mem_expand.1 hr
    exact hf _ h1)
  unfold Mid
  omega

theorem expand_append (l l' : List (Row × Nat)) : expand (l ++ l') = expand l ++ expand l' := by simp [expand]
theorem times_le {p : Row × Nat} {l : List (Row × Nat)} (h : p ∈ l) : p.2 ≤ (expand l).length := by
  have h1 := (expand_perm (List.perm_cons_erase h)).length_eq
  rw [expand_cons] at h1
  simp at h1
  omega
theorem mid_sums {by_ of_ : Nat} {l : List (Row × Nat)} (hl : (expand l).length ≤ 500) (hok : ∀ p ∈ l, 0 < p.2 ∧ okRow p.1) :
    Mid (sume (fun _ => 1) l) ∧ Mid (sume (fun r => r.x by_) l) ∧ Mid (sume (fun r => r.x of_) l) ∧ Mid (sume (fun r => r.x by_ * r.x by_) l) ∧ Mid (sume (fun r => r.x by_ * r.x of_) l) := by
  refine ⟨mid_sume hl fun p _ => ⟨by omega, by omega⟩, mid_sume hl fun p hp => ?_, mid_sume hl fun p hp => ?_, mid_sume hl fun p hp => ?_, mid_sume hl fun p hp => ?_⟩
  · have := (hok p hp).2.x by_; omega
  · have := (hok p hp).2.x of_; omega
  · exact mul_bd (U := 1000) (V := 1000) ((hok p hp).2.x by_) ((hok p hp).2.x by_)
  · exact mul_bd (U := 1000) (V := 1000) ((hok p hp).2.x by_) ((hok p hp).2.x of_)
theorem method_add (a : Addr) (w : World) : (method 284 77 (.pointer (some a)) "amnesty/learn.add").run Tryz.prog w = .ok (123, .pointer (some a)) w := by kernel_rfl
theorem SmAt.add {w W : World} {g by_ of_ : Nat} {l : List (Row × Nat)} {p : Row × Nat} (h : SmAt w g by_ of_ l) (hb : by_ < 3) (ho : of_ < 3) (hl : (expand (l ++ [p])).length ≤ 500) (hok : ∀ q ∈ l ++ [p], 0 < q.2 ∧ okRow q.1) (hk : Keep No w W) :
    Calls Tryz.prog 123 #[.pointer (some ⟨g, 0, none⟩), p.1.v, .int .i64 (p.2 : Nat)] W fun e w' => e = .returned (.tuple #[]) ∧ SmAt w' g by_ of_ (l ++ [p]) ∧ Keep (fun b => b = g) w w' := by
  have hp := hok p (by simp)
  have hl' : (expand l).length ≤ 500 := by rw [expand_append, List.length_append] at hl; omega
  obtain ⟨m1, m2, m3, m4, m5⟩ := mid_sums (by_ := by_) (of_ := of_) hl' (fun q hq => hok q (by simp [hq]))
  refine (add_any p.1 p.2 (Blk.keep h hk (fun x => x)) hb ho hp.2 (Nat.le_trans (times_le (l := l ++ [p]) (by simp)) hl) m1 m2 m3 m4 m5).mono ?_
  rintro e w' ⟨he, h1, h2⟩
  exact ⟨he, SmAt.push h1, (hk.mono (fun _ x => x.elim)).trans h2 (fun _ x => .inl x)⟩

theorem Cnt.at_ {B : Nat} {w : World} {A : Option Addr} {c : Nat} {L : List (Row × Nat)} (h : Cnt B w (.slice A L.length c) L) {k : Nat} (hk : k < L.length) : ∃ g', A = some ⟨g', 0, none⟩ ∧ ∀ j u, (encC L[k])[j]? = some u → w.cell? ⟨g', k * 5 + j, none⟩ = some u := by
  obtain ⟨h1, ⟨h2, h3⟩ | ⟨g', cap, cur, h2, _, hg, hn, _, hcs, htake⟩⟩ := h
  · omega
  · injection h2 with h2 _ _
    refine ⟨g', h2, fun j u hu => ?_⟩
    have hj : j < 5 := by
      by_cases hj : j < 5
      · exact hj
      · rw [List.getElem?_eq_none (by rw [encC_length]; omega)] at hu; cases hu
    have hkj : k * 5 + j < L.length * 5 := by omega
    have h3 := cells5_get L (k * 5 + j) hkj
    rw [← htake, List.getElem?_take, if_pos hkj, Array.getElem?_toList] at h3
    rw [Blk.cell (w := w) (cs := cur) hg, h3, show (k * 5 + j) / 5 = k by omega, show (k * 5 + j) % 5 = j by omega, getElem!_pos L k hk, List.getElem!_eq_getElem?_getD, hu]
    rfl

set_option maxHeartbeats 2000000 in
set_option maxRecDepth 100000 in
theorem tell_any {B : Nat} {w : World} {g by_ of_ : Nat} {v : Value} {L : List (Row × Nat)} (hC : Cnt B w v L) (hS : SmAt w g by_ of_ []) (hb : by_ < 3) (ho : of_ < 3) (hne : ∀ k, v.ownBlock = some k → k ≠ g) (hl : (expand L).length ≤ 500) (hok : ∀ p ∈ L, 0 < p.2 ∧ okRow p.1) :
    Calls Tryz.prog 32 #[.iface 77 (.pointer (some ⟨g, 0, none⟩)), v] w fun e w' => e = .returned (.tuple #[]) ∧ SmAt w' g by_ of_ L ∧ Keep (fun b => b = g) w w' := by
  have hL : L.length ≤ 500 := Nat.le_trans (expand_len hok) hl
  obtain ⟨c, A, rfl⟩ : ∃ c A, v = .slice A L.length c := by
    rcases hC.2 with ⟨h, h2⟩ | ⟨g', cap, _, h, _⟩
    · exact ⟨0, none, by rw [h, h2]⟩
    · exact ⟨_, _, h⟩
  have HC := Lib.hid hC
  have HS := Lib.hid hS
  clear hC hS
  go_enter Tryz.func32, Tryz.ntmps32
  go_wp2_with fail
  go_loopw [8] (fun v8 wr => ∃ k : Nat, k ≤ L.length ∧ v8 = .int .i64 k ∧ Hid (SmAt wr g by_ of_ (L.take k)) ∧ Hid (Keep (fun b => b = g) w wr)) (fun i _ => L.length - (intOf i).toNat)
  case atStart => exact ⟨0, Nat.zero_le _, rfl, HS, Lib.hid (Keep.refl _ w)⟩
  case round =>
    clear HS
    obtain ⟨k, hk, rfl, hS, hK⟩ := hrel
    by_cases hlt : k < L.length
    · obtain ⟨g', rfl, hcell⟩ := (Cnt.keep HC.out hK.out (fun x hx e => hne x hx e)).at_ hlt
      have e0 := hcell 0 _ rfl
      rw [Nat.add_zero] at e0
      have e1 := hcell 1 _ rfl
      have e2 := hcell 2 _ rfl
      have e3 := hcell 3 _ rfl
      have e4 := hcell 4 _ rfl
      have hmem := Lib.hid (hok _ (List.getElem_mem hlt))
      have hex := Lib.hid (List.take_append_getElem hlt)
      clear hcell
      generalize L[k] = p at *
      have i0 : (0 : Int) ≤ (k : Int) := by omega
      have i1 : (k : Int) < (L.length : Int) := by omega
      have hkL : (expand (L.take k ++ [p])).length ≤ 500 := by
        have h1 : L = (L.take k ++ [p]) ++ L.drop (k + 1) := by rw [hex.out]; exact (List.take_append_drop _ _).symm
        rw [h1, expand_append, List.length_append] at hl
        omega
      have hokL : ∀ q ∈ L.take k ++ [p], 0 < q.2 ∧ okRow q.1 := fun q hq => by
        rw [hex.out] at hq
        exact hok q (List.mem_of_mem_take hq)
      have HA := Lib.hid (fun W (hW : Keep No wr W) => hS.out.add (W := W) hb ho hkL hokL hW)
      have HK := Lib.hid hK.out
      have hm := method_add
      unfold Row.v at HA
      clear hkL hokL hS
      go_wp2_with (go_at_call 123; refine (HA.out _ ((Keep.refl No wr).alloc _)).mono ?_; rintro e w' ⟨rfl, hs', hk'⟩; have HS' := Lib.hid (show _ ∧ _ from ⟨hs', hk'⟩); clear hs' hk')
      go_roundw
      case rel => exact ⟨k + 1, by omega, by go_num, Lib.hid (hex.out ▸ HS'.out.1), Lib.hid (HK.out.trans HS'.out.2 (fun _ x => .inl x))⟩
      case measure => simp [intOf]; omega
    · have hkL : k = L.length := by omega
      subst hkL
      have hS' := Lib.hid (show SmAt wr g by_ of_ L from by have := hS.out; rwa [List.take_length] at this)
      clear hS
      have i1 : (L.length : Int) ≤ (L.length : Int) := Int.le_refl _
      go_wp2
      go_end0
      exact ⟨rfl, hS'.out, hK.out⟩
end Go.Proofs.YtgabidgpngiecaaGreat
