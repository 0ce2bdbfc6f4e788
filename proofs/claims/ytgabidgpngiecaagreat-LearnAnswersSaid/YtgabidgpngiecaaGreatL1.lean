/- A model in memory; contracts of learn's Learn and Len. Conditions: each names its own. -/
import Derived.Test.YtgabidgpngiecaaGreatL0
import Derived.RegionTactic
import Derived.ChangeAlike
import Derived.Deep.RegionHeld3
namespace Go.Proofs.YtgabidgpngiecaaGreat
open Go.RowKit Go.Proofs.YtgabidgpngiecaaGreatKit Go.Proofs.YtgabidgpngiecaaGreatPlain

def entV (p : Row × Nat) : Value × Value := (p.1.v, .int .i64 (p.2 : Nat))
structure MdlS (base : Nat) (w : World) (mb b : Nat) (s : List (Row × Nat)) (n : Nat) : Prop where
  blk : Blk w mb 43 #[.bool true, .map (some b), .int .i64 (n : Nat)]
  map : MapAt Tryz.prog 30 w b (s.map entV)
  ok : ∀ p ∈ s, 0 < p.2 ∧ okRow p.1
  bm : base ≤ mb
  bb : base ≤ b
/-- The model in block mb, whose map lies in block b, has these rows. -/
def Mdl (base : Nat) (w : World) (mb b : Nat) (l : List Row) : Prop := ∃ s, MdlS base w mb b s l.length ∧ (expand s).Perm l ∧ l.length ≤ 500
section
variable {base : Nat} {w w' : World} {mb b : Nat} {l l' : List Row} {S : Nat → Prop}
theorem MdlS.keep {s : List (Row × Nat)} {n : Nat} (h : MdlS base w mb b s n) (hk : Keep S w w') (h1 : ¬ S mb) (h2 : ¬ S b) : MdlS base w' mb b s n := ⟨h.blk.keep hk h1, h.map.keep hk h2, h.ok, h.bm, h.bb⟩
theorem Mdl.keep (h : Mdl base w mb b l) (hk : Keep S w w') (h1 : ¬ S mb) (h2 : ¬ S b) : Mdl base w' mb b l := by
  obtain ⟨s, h3, h4⟩ := h
  exact ⟨s, h3.keep hk h1 h2, h4⟩
theorem Mdl.new_ (h : Mdl base w mb b l) (hk : Keep No w w') : Mdl base w' mb b l := h.keep hk (fun x => x) (fun x => x)
theorem Mdl.perm (h : Mdl base w mb b l) (hp : l.Perm l') : Mdl base w mb b l' := by
  obtain ⟨s, h3, h4, h5⟩ := h
  exact ⟨s, hp.length_eq ▸ h3, h4.trans hp, hp.length_eq ▸ h5⟩
theorem Mdl.len (h : Mdl base w mb b l) : l.length ≤ 500 := by obtain ⟨_, _, _, h⟩ := h; exact h
theorem Mdl.lt (h : Mdl base w mb b l) : mb < w.heap.size ∧ b < w.heap.size := by
  obtain ⟨s, h3, _⟩ := h
  exact ⟨h3.blk.lt, h3.map.lt⟩
theorem Mdl.ge (h : Mdl base w mb b l) : base ≤ mb ∧ base ≤ b := by
  obtain ⟨s, h3, _⟩ := h
  exact ⟨h3.bm, h3.bb⟩
theorem Mdl.ne (h : Mdl base w mb b l) : b ≠ mb := by
  obtain ⟨s, h3, _⟩ := h
  obtain ⟨es, clock, h4, _⟩ := h3.map
  intro e
  have := h3.blk
  unfold Blk at this
  rw [← e, h4] at this
  cases this
theorem Mdl.okay (h : Mdl base w mb b l) : ∀ r ∈ l, okRow r := by
  obtain ⟨s, h3, h4, _⟩ := h
  intro r hr
  obtain ⟨n, h5, _⟩ := mem_expand.1 (h4.mem_iff.2 hr)
  exact (h3.ok _ h5).2
theorem Mdl.made (hb : base ≤ w.heap.size) : Mdl base ((w.alloc (.map #[] 0)).alloc (.cells #[.bool true, .map (some w.heap.size), .int .i64 0] 43)) (w.heap.size + 1) w.heap.size [] := by
  have hB := Blk.new (w.alloc (.map #[] 0)) 43 #[.bool true, .map (some w.heap.size), .int .i64 0]
  have hz : (w.alloc (.map #[] 0)).heap.size = w.heap.size + 1 := by simp
  rw [hz] at hB
  exact ⟨[], ⟨hB, (MapAt.made w).keep ((Keep.refl No _).alloc _) (fun x => x), (fun _ h => by cases h), by omega, hb⟩, List.Perm.refl _, by simp⟩
end

set_option maxHeartbeats 1000000 in
theorem learn_bad {base : Nat} {w : World} {mb b : Nat} {l : List Row} (r : Row) (h : Mdl base w mb b l) (hr : ¬ okRow r) :
    Calls Tryz.prog 9 #[.pointer (some ⟨mb, 0, none⟩), r.v] w fun e w' => e = .returned (.int .i64 1) ∧ Keep No w w' := by
  obtain ⟨s, hs, _⟩ := h
  have B0 := Blk.new w 30 #[.int .i64 r.a, .int .i64 r.b, .int .i64 r.c, .int .i64 r.l]
  have k0 := (Keep.refl No w).alloc (.cells #[.int .i64 r.a, .int .i64 r.b, .int .i64 r.c, .int .i64 r.l] 30)
  have f0 := B0.cell 0
  have f1 := B0.cell 1
  have f2 := B0.cell 2
  have f3 := B0.cell 3
  simp only [List.getElem?_toArray, List.getElem?_cons_zero, List.getElem?_cons_succ] at f0 f1 f2 f3
  have HN := Lib.hid (none_any ((hs.keep k0 (fun x => x) (fun x => x)).blk.cell 0))
  have HA := Lib.hid (fun W => allowed_any r W)
  rw [decide_eq_false hr] at HA
  have HK := Lib.hid k0
  clear hs B0 k0 hr
  unfold Row.v at HA ⊢
  go_enter Tryz.func9, Tryz.ntmps9
  go_wp2_with fail
  generalize w.alloc (.cells #[.int .i64 r.a, .int .i64 r.b, .int .i64 r.c, .int .i64 r.l] 30) = w0 at *
  go_wp2_with (first
    | (go_at_call 26; refine HN.out.mono ?_; rintro e w' ⟨rfl, rfl⟩)
    | (go_at_call 27; refine (HA.out _).mono ?_; rintro e w1 ⟨rfl, k1⟩; have K1 := Lib.hid (HK.out.trans k1 (fun _ x => x.elim)); clear k1))
  go_ret
  exact ⟨rfl, K1.out⟩
theorem expand_len : ∀ {s : List (Row × Nat)}, (∀ p ∈ s, 0 < p.2 ∧ okRow p.1) → s.length ≤ (expand s).length
  | [], _ => Nat.le_refl _
  | p :: s, h => by
    have h1 := (h p List.mem_cons_self).1
    have h2 := expand_len (s := s) fun q hq => h q (List.mem_cons_of_mem _ hq)
    rw [expand_cons, List.length_append, List.length_replicate, List.length_cons]; omega
/-- The entry of a row is raised by one. -/
theorem count_step {w : World} {b : Nat} {s : List (Row × Nat)} {r : Row} (hm : MapAt Tryz.prog 30 w b (s.map entV)) (_hok : ∀ p ∈ s, 0 < p.2 ∧ okRow p.1) (hr : okRow r) (hl : s.length < maxLen) : ∃ (n : Nat) (s0 : List (Row × Nat)) (st : Nat) (w2 w3 : World),
    (Instr.lookup 41 (.map (some b)) r.v false).run Tryz.prog w = .ok (.int .i64 (n : Nat)) w ∧
    (Instr.mapEntry 41 (.map (some b)) r.v).run Tryz.prog w = .ok (.tuple #[.int .i64 (n : Nat), .int .i64 (st : Nat)]) w2 ∧
    (Instr.lookup 41 (.map (some b)) r.v false).run Tryz.prog w2 = .ok (.int .i64 (n : Nat)) w2 ∧
    (Instr.entryStore 41 (.map (some b)) (.int .i64 (st : Nat)) (.int .i64 ((n : Int) + 1))).run Tryz.prog w2 = .ok () w3 ∧
    MapAt Tryz.prog 30 w3 b (((r, n + 1) :: s0).map entV) ∧ (expand ((r, n + 1) :: s0)).Perm (r :: expand s) ∧ Keep (fun x => x = b) w w3 ∧ (∀ p ∈ s0, p ∈ s) ∧ n ≤ (expand s).length := by
  by_cases h : ∃ n, (r, n) ∈ s
  · obtain ⟨n, hn⟩ := h
    have hp := List.perm_cons_erase hn
    have hm1 : MapAt Tryz.prog 30 w b ((r.v, .int .i64 (n : Nat)) :: (s.erase (r, n)).map entV) := hm.perm (hp.map entV)
    obtain ⟨st, w2, e1, m2, k2, _, hst⟩ := hm1.entry rowKeyed Tryz.underlying41
    obtain ⟨w3, e3, m3, k3, _⟩ := hst w2 (.int .i64 ((n : Int) + 1)) rfl
    refine ⟨n, s.erase (r, n), st, w2, w3, hm1.look false rowKeyed Tryz.underlying41, e1, m2.look false rowKeyed Tryz.underlying41, e3, ?_, ?_, k2.trans k3 (fun _ h => .inl h), fun p hp => List.mem_of_mem_erase hp, ?_⟩
    · exact m3
    · rw [expand_cons, List.replicate_succ]
      exact List.Perm.cons r (expand_perm hp).symm
    · rw [(expand_perm hp).length_eq, expand_cons]; simp
  · have hnk : ∀ p ∈ s.map entV, p.1 ≠ r.v := fun p hp e => by
      obtain ⟨q, hq, rfl⟩ := List.mem_map.1 hp
      have := row_v_inj e
      exact h ⟨q.2, this ▸ hq⟩
    obtain ⟨kl, hkl⟩ := row_key hr
    obtain ⟨st, w2, e1, m2, k2, _, hst⟩ := hm.entry_new hnk (by simpa using hl) rowKeyed Tryz.underlying41 zero_int hkl
    obtain ⟨w3, e3, m3, k3, _⟩ := hst w2 (.int .i64 ((0 : Nat) + 1)) rfl
    refine ⟨0, s, st, w2, w3, hm.look_no false hnk rowKeyed Tryz.underlying41 (zero_int w) hkl, e1, m2.look false rowKeyed Tryz.underlying41, e3, m3, ?_, k2.trans k3 (fun _ h => .inl h), fun p hp => hp, Nat.zero_le _⟩
    rw [expand_cons]
    exact List.Perm.refl _

set_option maxHeartbeats 1000000 in
theorem learn_full {base : Nat} {w : World} {mb b : Nat} {l : List Row} (r : Row) (h : Mdl base w mb b l) (hr : okRow r) (hn : 500 ≤ l.length) :
    Calls Tryz.prog 9 #[.pointer (some ⟨mb, 0, none⟩), r.v] w fun e w' => e = .returned (.int .i64 5) ∧ Keep No w w' := by
  obtain ⟨s, hs, _, h5⟩ := h
  have B0 := Blk.new w 30 #[.int .i64 r.a, .int .i64 r.b, .int .i64 r.c, .int .i64 r.l]
  have k0 := (Keep.refl No w).alloc (.cells #[.int .i64 r.a, .int .i64 r.b, .int .i64 r.c, .int .i64 r.l] 30)
  have f0 := B0.cell 0
  have f1 := B0.cell 1
  have f2 := B0.cell 2
  have f3 := B0.cell 3
  simp only [List.getElem?_toArray, List.getElem?_cons_zero, List.getElem?_cons_succ] at f0 f1 f2 f3
  have HN := Lib.hid (none_any ((hs.keep k0 (fun x => x) (fun x => x)).blk.cell 0))
  have HA := Lib.hid (fun W => allowed_any r W)
  rw [decide_eq_true hr] at HA
  have HK := Lib.hid k0
  have HS := Lib.hid hs
  clear hs B0 k0 hr
  have hnn : (500 : Int) ≤ (l.length : Int) := by omega
  unfold Row.v at HA ⊢
  go_enter Tryz.func9, Tryz.ntmps9
  go_wp2_with fail
  generalize w.alloc (.cells #[.int .i64 r.a, .int .i64 r.b, .int .i64 r.c, .int .i64 r.l] 30) = w0 at *
  go_wp2_with (first
    | (go_at_call 26; refine HN.out.mono ?_; rintro e w' ⟨rfl, rfl⟩)
    | (go_at_call 27; refine (HA.out _).mono ?_; rintro e w1 ⟨rfl, k1⟩; have g2 := ((HS.out.keep (HK.out.trans k1 (fun _ x => x.elim)) (fun x => x) (fun x => x)).blk.cell 2); simp only [List.getElem?_toArray, List.getElem?_cons_zero, List.getElem?_cons_succ] at g2; have K1 := Lib.hid (HK.out.trans k1 (fun _ x => x.elim)); clear k1))
  go_ret
  exact ⟨rfl, K1.out⟩

set_option maxHeartbeats 2000000 in
set_option maxRecDepth 100000 in
theorem learn_yes {base : Nat} {w : World} {mb b : Nat} {l : List Row} (r : Row) (h : Mdl base w mb b l) (hr : okRow r) (hn : l.length < 500) :
    Calls Tryz.prog 9 #[.pointer (some ⟨mb, 0, none⟩), r.v] w fun e w' => e = .returned (.int .i64 0) ∧ Mdl base w' mb b (r :: l) ∧ Keep (fun x => x = mb ∨ x = b) w w' := by
  have hne := h.ne
  obtain ⟨s, hs, hp, h5⟩ := h
  have B0 := Blk.new w 30 #[.int .i64 r.a, .int .i64 r.b, .int .i64 r.c, .int .i64 r.l]
  have k0 := (Keep.refl No w).alloc (.cells #[.int .i64 r.a, .int .i64 r.b, .int .i64 r.c, .int .i64 r.l] 30)
  have f0 := B0.cell 0
  have f1 := B0.cell 1
  have f2 := B0.cell 2
  have f3 := B0.cell 3
  simp only [List.getElem?_toArray, List.getElem?_cons_zero, List.getElem?_cons_succ] at f0 f1 f2 f3
  have HN := Lib.hid (none_any ((hs.keep k0 (fun x => x) (fun x => x)).blk.cell 0))
  have HA := Lib.hid (fun W => allowed_any r W)
  rw [decide_eq_true hr] at HA
  have HK := Lib.hid k0
  have HS := Lib.hid hs
  have HB0 := Lib.hid B0
  have HR := Lib.hid hr
  have HP := Lib.hid hp
  clear hs B0 k0 hr hp
  have hnn : (l.length : Int) < (500 : Int) := by omega
  unfold Row.v at HA ⊢
  go_enter Tryz.func9, Tryz.ntmps9
  go_wp2_with fail
  generalize w.alloc (.cells #[.int .i64 r.a, .int .i64 r.b, .int .i64 r.c, .int .i64 r.l] 30) = w0 at *
  go_wp2_with (first
    | (go_at_call 26; refine HN.out.mono ?_; rintro e w' ⟨rfl, rfl⟩)
    | (go_at_call 27; refine (HA.out _).mono ?_; rintro e w1 ⟨rfl, k1⟩; have g2 := ((HS.out.keep (HK.out.trans k1 (fun _ x => x.elim)) (fun x => x) (fun x => x)).blk.cell 2); simp only [List.getElem?_toArray, List.getElem?_cons_zero, List.getElem?_cons_succ] at g2; have K1 := Lib.hid (HK.out.trans k1 (fun _ x => x.elim)); have K01 := Lib.hid k1; clear k1))
  have hS1 := HS.out.keep K1.out (fun x => x) (fun x => x)
  have hB1 := HB0.out.keep K01.out (fun x => x)
  have g1 := hS1.blk.cell 1
  have f0 := hB1.cell 0
  have f1 := hB1.cell 1
  have f2 := hB1.cell 2
  have f3 := hB1.cell 3
  simp only [List.getElem?_toArray, List.getElem?_cons_zero, List.getElem?_cons_succ] at g1 f0 f1 f2 f3
  have hsl : s.length < maxLen := by
    have h1 := hS1.map.size
    have h2 := expand_len HS.out.ok
    have h3 := HP.out.length_eq
    simp [maxLen]; omega
  obtain ⟨n, s0, st, w2, w3, q1, q2, q3, q4, m3, hpe, k3, hin, hnb⟩ := count_step (w := w1.drew) (hS1.map.keep ((Keep.refl No w1).drew) (fun x => x)) hS1.ok HR.out hsl
  have hnb2 : n ≤ 500 := by have := HP.out.length_eq; omega
  have k13 : Keep (fun x => x = b) w w3 := (K1.out.mono (fun _ x => x.elim)).trans k3.of_drew (fun _ h => .inl h)
  have g2' : w3.cell? ⟨mb, 2, none⟩ = some (.int .i64 (l.length : Nat)) := (k13.cell (p := ⟨mb, 2, none⟩) HS.out.blk.lt (fun e => hne e.symm)).trans (HS.out.blk.cell 2)
  have z2 : w3.frozen? ⟨mb, 2, none⟩ = false := (k13.frozen (p := ⟨mb, 2, none⟩) HS.out.blk.lt (fun e => hne e.symm)).trans (HS.out.blk.frozen 2)
  have HF := Lib.hid (show _ ∧ _ ∧ _ ∧ _ from ⟨m3, hpe, k13, hin⟩)
  unfold Row.v at q1 q2 q3
  clear m3 hpe k3 k13 hin hsl hS1 hB1 K01 HB0 HN HA HK
  go_region
  all_goals
    go_wp2
    go_ret
    have hks := (Keep.refl (fun x => x = mb) w3).setCell (p := ⟨mb, 2, none⟩) (.inl rfl) (.int .i64 ((l.length : Int) + 1))
    have hB3 := ((HS.out.blk.keep HF.out.2.2.1 (fun e => hne e.symm)).set_ 2 (.int .i64 ((l.length : Int) + 1)))
    refine ⟨rfl, ⟨(r, n + 1) :: s0, ⟨hB3, HF.out.1.keep hks (fun e => hne e), fun p hp => ?_, HS.out.bm, HS.out.bb⟩, HF.out.2.1.trans (List.Perm.cons r HP.out), by simp; omega⟩, (HF.out.2.2.1.mono (fun x e => .inr e)).trans hks (fun x e => .inl (.inl e))⟩
    rcases List.mem_cons.1 hp with rfl | hp
    · exact ⟨by simp, HR.out⟩
    · exact HS.out.ok p (HF.out.2.2.2 p hp)

set_option maxHeartbeats 400000 in
theorem mlen_any {base : Nat} {w : World} {mb b : Nat} {l : List Row} (h : Mdl base w mb b l) : Calls Tryz.prog 20 #[.pointer (some ⟨mb, 0, none⟩)] w fun e w' => e = .returned (.int .i64 (l.length : Nat)) ∧ w = w' := by
  obtain ⟨s, hs, _⟩ := h
  have HN := Lib.hid (none_any (hs.blk.cell 0))
  have g2 := hs.blk.cell 2
  simp only [List.getElem?_toArray, List.getElem?_cons_zero, List.getElem?_cons_succ] at g2
  clear hs
  go_enter Tryz.func20, Tryz.ntmps20
  go_wp2_with (go_at_call 26; refine HN.out.mono ?_; rintro e w' ⟨rfl, rfl⟩)
  go_ret
  exact ⟨rfl, rfl⟩
end Go.Proofs.YtgabidgpngiecaaGreat
