/- Bytes that may be written over: contract of the law's spoil. Conditions: the length is bounded. -/
import Derived.Test.YtdmckjojeddaaaaC1
namespace Go.Proofs.Ytdmckjojeddaaaa
open Go.RowKit Go.Proofs.YtdmckjojeddaaaaKit

theorem add_head (g j : Nat) : (⟨g, 0, none⟩ : Addr).add j = ⟨g, j, none⟩ := by
  unfold Addr.add
  by_cases h : j = 0 <;> simp [h]
/-- The bytes lie at the head of a block of bytes from B on, and may be written. -/
def BW (B : Nat) (w : World) (A : Option Addr) (n : Nat) : Prop :=
  0 < n → ∃ g cs, A = some ⟨g, 0, none⟩ ∧ B ≤ g ∧ Blk w g 5 cs ∧ ∀ j, j < n → ∃ i, cs[j]? = some (Value.int .u8 i)
/-- Bytes from B on may have been written over. -/
structure Soft (B : Nat) (w w' : World) : Prop where
  keep : Keep (fun b => B ≤ b) w w'
  other : ∀ g t cs, B ≤ g → Blk w g t cs → t ≠ 5 → Blk w' g t cs
  bytes : ∀ (g : Nat) (cs : Array Value), B ≤ g → Blk w g 5 cs → ∃ cs' : Array Value, Blk w' g 5 cs' ∧ ∀ (j : Nat) (i : Int), cs[j]? = some (Value.int .u8 i) → ∃ i', cs'[j]? = some (Value.int .u8 i')
section
variable {B : Nat} {w w1 w' : World}
theorem Soft.refl (B : Nat) (w : World) : Soft B w w := ⟨Keep.refl _ _, fun _ _ _ _ h _ => h, fun _ cs _ h => ⟨cs, h, fun _ i h => ⟨i, h⟩⟩⟩
theorem Soft.trans (h : Soft B w w1) (k : Soft B w1 w') : Soft B w w' :=
  ⟨h.keep.trans k.keep (fun _ h => .inl h), fun g t cs hg hb ht => k.other g t cs hg (h.other g t cs hg hb ht) ht, fun g cs hg hb => by
    obtain ⟨c1, b1, h1⟩ := h.bytes g cs hg hb
    obtain ⟨c2, b2, h2⟩ := k.bytes g c1 hg b1
    exact ⟨c2, b2, fun j i hj => by obtain ⟨i1, e1⟩ := h1 j i hj; exact h2 j i1 e1⟩⟩
theorem Soft.new_ (h : Keep No w w') : Soft B w w' := ⟨h.mono (fun _ x => x.elim), fun _ _ _ _ hb _ => hb.keep h (fun x => x), fun _ cs _ hb => ⟨cs, hb.keep h (fun x => x), fun _ i h => ⟨i, h⟩⟩⟩
theorem Soft.set {g j : Nat} {cs : Array Value} (hb : Blk w g 5 cs) (hg : B ≤ g) (i' : Int) : Soft B w (w.setCell ⟨g, j, none⟩ (.int .u8 i')) :=
  ⟨(Keep.refl (fun b => B ≤ b) w).setCell (p := ⟨g, j, none⟩) (.inl hg) _, fun g2 t cs2 _ h2 ht => h2.far (p := ⟨g, j, none⟩) (h2.ne_ hb ht) _, fun g2 cs2 _ h2 => by
    by_cases he : g2 = g
    · subst he
      obtain rfl := hb.inj h2
      refine ⟨_, h2.set_ j _, fun j2 i h => ?_⟩
      have hlt := (Array.getElem?_eq_some_iff.1 h).1
      by_cases hj : j = j2
      · subst hj; exact ⟨i', by simp [Array.getElem?_setIfInBounds, hlt]⟩
      · exact ⟨i, by simp [Array.getElem?_setIfInBounds, hj, h]⟩
    · exact ⟨cs2, h2.far (p := ⟨g, j, none⟩) he _, fun _ i h => ⟨i, h⟩⟩⟩
/-- What was there ahead of B has stayed. -/
theorem Soft.old {w0 : World} (h : Soft B w1 w') (k : Keep No w0 w1) (hB : w0.heap.size ≤ B) : Keep No w0 w' := k.trans h.keep (fun _ hb => .inr (Nat.le_trans hB hb))
theorem BW.soft {A : Option Addr} {n : Nat} (h : BW B w A n) (k : Soft B w w') : BW B w' A n := fun hn => by
  obtain ⟨g, cs, e, hg, hb, hc⟩ := h hn
  obtain ⟨cs', hb', hc'⟩ := k.bytes g cs hg hb
  exact ⟨g, cs', e, hg, hb', fun j hj => by obtain ⟨i, hi⟩ := hc j hj; exact hc' j i hi⟩
theorem BW.keep {base : Nat} {S : Nat → Prop} {A : Option Addr} {n : Nat} (h : BW B w A n) (hk : Keep S w w') (hs : ∀ b, S b → Mut base w b) : BW B w' A n := fun hn => by
  obtain ⟨g, cs, e, hg, hb, hc⟩ := h hn
  exact ⟨g, cs, e, hg, hb.keep hk (fun hS => by
    obtain ⟨_, cs', t', f', hh, ht⟩ := hs g hS
    unfold Blk at hb
    rw [hb] at hh
    injection hh with hh
    injection hh with _ hh
    subst hh
    cases ht), hc⟩
/-- The block of some bytes. -/
def Its (B : Nat) (w : World) (A : Option Addr) (n b : Nat) : Prop := 0 < n ∧ A = some ⟨b, 0, none⟩ ∧ B ≤ b ∧ ∃ cs, Blk w b 5 cs
theorem Its.of {w2 : World} {n b : Nat} {A : Option Addr} (h : Its B w A n b) (hb : BW B w2 A n) : B ≤ b ∧ b < w2.heap.size := by
  obtain ⟨h0, e, hB, _⟩ := h
  obtain ⟨g, cs, e2, _, hblk, _⟩ := hb h0
  rw [e] at e2
  injection e2 with e2
  injection e2 with e2
  subst e2
  exact ⟨hB, hblk.lt⟩
theorem Its.not_mut {base n b : Nat} {A : Option Addr} (h : Its B w A n b) : ¬ Mut base w b := fun hm => by
  obtain ⟨_, _, _, cs, hb⟩ := h
  obtain ⟨_, cs', t', f', hh, ht⟩ := hm
  unfold Blk at hb
  rw [hb] at hh
  injection hh with hh
  injection hh with _ hh
  subst hh
  cases ht
theorem BW.new_ {A : Option Addr} {n : Nat} (h : BW B w A n) (k : Keep No w w') : BW B w' A n := h.soft (Soft.new_ k)
theorem BW.low {B' : Nat} {A : Option Addr} {n : Nat} (h : BW B w A n) (hB : B' ≤ B) : BW B' w A n := fun hn => by
  obtain ⟨g, cs, e, hg, hb, hc⟩ := h hn
  exact ⟨g, cs, e, Nat.le_trans hB hg, hb, hc⟩
theorem BW.of_own {lo c n : Nat} {A : Option Addr} {bs : List UInt8} (h : w.ownsRow lo 5 1 (.slice A n c) n (byteVs bs)) (hB : B ≤ lo) : BW B w A n := fun hn => by
  have hl : bs.length = n := by have := h.1; rw [byteVs_length] at this; omega
  rcases h.2 with ⟨e, _⟩ | ⟨g, cap, cur, e, h3, h4, h5, h6⟩
  · injection e with _ e; omega
  · injection e with e1 e2 e3
    subst e1
    refine ⟨g, cur, rfl, Nat.le_trans hB h3, h4, fun j hj => ?_⟩
    have hc := h.cells (g := g) rfl j (.int .u8 (bs[j]'(by omega)).toNat) (by rw [byteVs_get bs j (by omega)])
    rw [add_head] at hc
    have := (Blk.cell (show Blk w g 5 cur from h4) j)
    rw [hc] at this
    exact ⟨_, this.symm⟩
end

set_option maxHeartbeats 1000000 in
set_option maxRecDepth 100000 in
theorem spoil_any {B : Nat} {w : World} {A : Option Addr} {n c : Nat} (h : BW B w A n) (hn : n ≤ 4000000000) :
    Calls Try.prog 54 #[.slice A n c] w fun e w' => e = .returned (.tuple #[]) ∧ Soft B w w' ∧ Keep (Its B w A n) w w' := by
  have H := Lib.hid h
  clear h
  go_enter Try.func54, Try.ntmps54
  go_wp2
  go_loopw [2] (fun v2 wr => ∃ k : Nat, k ≤ n ∧ v2 = .int .i64 k ∧ Hid (Soft B w wr ∧ Keep (Its B w A n) w wr)) (fun i _ => n - (intOf i).toNat)
  case atStart => exact ⟨0, Nat.zero_le _, rfl, Lib.hid ⟨Soft.refl _ _, Keep.refl _ _⟩⟩
  case round =>
    obtain ⟨k, hk, rfl, hS⟩ := hrel
    by_cases hlt : k < n
    · obtain ⟨g, cs, rfl, hg, hb, hcs⟩ := (H.out.soft hS.out.1) (by omega)
      obtain ⟨i, hi⟩ := hcs k hlt
      have hits : Its B w (some ⟨g, 0, none⟩) n g := by
        obtain ⟨g0, cs0, e0, _, hb0, _⟩ := H.out (by omega)
        injection e0 with e0
        injection e0 with e0
        subst e0
        exact ⟨by omega, rfl, hg, cs0, hb0⟩
      have hc := hb.cell k
      rw [hi] at hc
      have hf := hb.frozen k
      have HST := Lib.hid (show ∀ i', Soft B w (wr.setCell ((⟨g, 0, none⟩ : Addr).add k) (.int .u8 i')) ∧ Keep (Its B w (some ⟨g, 0, none⟩) n) w (wr.setCell ((⟨g, 0, none⟩ : Addr).add k) (.int .u8 i')) from fun i' => by
        rw [add_head]
        exact ⟨hS.out.1.trans (Soft.set hb hg i'), hS.out.2.setCell (p := ⟨g, k, none⟩) (.inl hits) _⟩)
      rw [← add_head] at hc hf
      generalize (⟨g, 0, none⟩ : Addr) = ag at *
      have i0 : (0 : Int) ≤ (k : Int) := by omega
      have i1 : (k : Int) < (n : Int) := by omega
      clear hb hcs hi hS hits
      go_wp2
      go_roundw
      case rel => exact ⟨k + 1, by omega, by go_num, Lib.hid (HST.out _)⟩
      case measure => simp [intOf]; omega
    · obtain rfl : k = n := by omega
      go_wp2
      go_end0
      exact ⟨rfl, hS.out.1, hS.out.2⟩
end Go.Proofs.Ytdmckjojeddaaaa
