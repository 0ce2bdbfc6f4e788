/- Contract of learn's Unlearn. Conditions: each names its own. -/
import Derived.Test.YtgabidgpngiecaaGreatL1
import Derived.BigQuiet
namespace Go.Proofs.YtgabidgpngiecaaGreat
open Go.RowKit Go.Proofs.YtgabidgpngiecaaGreatKit Go.Proofs.YtgabidgpngiecaaGreatPlain

set_option maxHeartbeats 1000000 in
theorem unlearn_bad {base : Nat} {w : World} {mb b : Nat} {l : List Row} (r : Row) (h : Mdl base w mb b l) (hr : ¬ okRow r) :
    Calls Tryz.prog 7 #[.pointer (some ⟨mb, 0, none⟩), r.v] w fun e w' => e = .returned (.int .i64 1) ∧ Keep No w w' := by
  obtain ⟨s, hs, _⟩ := h
  have B0 := Blk.new w 30 #[.int .i64 r.a, .int .i64 r.b, .int .i64 r.c, .int .i64 r.l]
  have k0 := (Keep.refl No w).alloc (.cells #[.int .i64 r.a, .int .i64 r.b, .int .i64 r.c, .int .i64 r.l] 30)
  have f0 := B0.cell 0
  have f1 := B0.cell 1
  have f2 := B0.cell 2
  have f3 := B0.cell 3
  simp only [List.getElem?_toArray, List.getElem?_cons_zero, List.getElem?_cons_succ] at f0 f1 f2 f3
  have HN := Lib.hid (none_any ((hs.keep k0 (fun x => x) (fun x => x)).blk.cell 0))
  have HA := Lib.hid (fun W => allowed_any r W)
  rw [decide_eq_false hr] at HA
  have HK := Lib.hid k0
  clear hs B0 k0 hr
  unfold Row.v at HA ⊢
  go_enter Tryz.func7, Tryz.ntmps7
  go_wp2_with fail
  generalize w.alloc (.cells #[.int .i64 r.a, .int .i64 r.b, .int .i64 r.c, .int .i64 r.l] 30) = w0 at *
  go_wp2_with (first
    | (go_at_call 26; refine HN.out.mono ?_; rintro e w' ⟨rfl, rfl⟩)
    | (go_at_call 27; refine (HA.out _).mono ?_; rintro e w1 ⟨rfl, k1⟩; have K1 := Lib.hid (HK.out.trans k1 (fun _ x => x.elim)); clear k1))
  go_ret
  exact ⟨rfl, K1.out⟩

set_option maxHeartbeats 1000000 in
theorem unlearn_none {base : Nat} {w : World} {mb b : Nat} {l : List Row} (r : Row) (h : Mdl base w mb b l) (hr : okRow r) (hm : r ∉ l) :
    Calls Tryz.prog 7 #[.pointer (some ⟨mb, 0, none⟩), r.v] w fun e w' => e = .returned (.int .i64 3) ∧ Keep No w w' := by
  obtain ⟨s, hs, hp, _⟩ := h
  have hnk : ∀ p ∈ s.map entV, p.1 ≠ r.v := fun p hp2 e => by
    obtain ⟨q, hq, rfl⟩ := List.mem_map.1 hp2
    have := row_v_inj e
    exact hm (hp.mem_iff.1 (mem_expand.2 ⟨q.2, this ▸ hq, (hs.ok q hq).1⟩))
  obtain ⟨kl, hkl⟩ := row_key hr
  have B0 := Blk.new w 30 #[.int .i64 r.a, .int .i64 r.b, .int .i64 r.c, .int .i64 r.l]
  have k0 := (Keep.refl No w).alloc (.cells #[.int .i64 r.a, .int .i64 r.b, .int .i64 r.c, .int .i64 r.l] 30)
  have f0 := B0.cell 0
  have f1 := B0.cell 1
  have f2 := B0.cell 2
  have f3 := B0.cell 3
  simp only [List.getElem?_toArray, List.getElem?_cons_zero, List.getElem?_cons_succ] at f0 f1 f2 f3
  have HN := Lib.hid (none_any ((hs.keep k0 (fun x => x) (fun x => x)).blk.cell 0))
  have HA := Lib.hid (fun W => allowed_any r W)
  rw [decide_eq_true hr] at HA
  have HK := Lib.hid k0
  have HS := Lib.hid hs
  have HB0 := Lib.hid B0
  have HKL := Lib.hid (show _ ∧ _ from ⟨hkl, hnk⟩)
  clear hs B0 k0 hr hm hp hkl hnk
  unfold Row.v at HA HKL ⊢
  go_enter Tryz.func7, Tryz.ntmps7
  go_wp2_with fail
  generalize w.alloc (.cells #[.int .i64 r.a, .int .i64 r.b, .int .i64 r.c, .int .i64 r.l] 30) = w0 at *
  go_wp2_with (first
    | (go_at_call 26; refine HN.out.mono ?_; rintro e w' ⟨rfl, rfl⟩)
    | (go_at_call 27; refine (HA.out _).mono ?_; rintro e w1 ⟨rfl, k1⟩; have K1 := Lib.hid (HK.out.trans k1 (fun _ x => x.elim)); have K01 := Lib.hid k1; clear k1))
  have hS1 := HS.out.keep K1.out (fun x => x) (fun x => x)
  have hB1 := HB0.out.keep K01.out (fun x => x)
  have g1 := hS1.blk.cell 1
  have f0 := hB1.cell 0
  have f1 := hB1.cell 1
  have f2 := hB1.cell 2
  have f3 := hB1.cell 3
  simp only [List.getElem?_toArray, List.getElem?_cons_zero, List.getElem?_cons_succ] at g1 f0 f1 f2 f3
  have q1 : ∀ n, (Instr.lookup 41 (.map (some b)) (.agg #[.int .i64 r.a, .int .i64 r.b, .int .i64 r.c, .int .i64 r.l]) false).run Tryz.prog (w1.drewN n) = .ok (.int .i64 0) (w1.drewN n) := fun n =>
    (hS1.map.keep ((Keep.refl No w1).drewN n) (fun x => x)).look_no false HKL.out.2 rowKeyed Tryz.underlying41 (zero_int _) HKL.out.1
  clear hS1 hB1 HB0 K01 HN HA
  go_quiet (fail)
  go_wp2
  go_ret
  exact ⟨rfl, K1.out.drewN nq⟩

theorem drop_ty {P : Program} {k : TypeId} {w : World} {b : Nat} {l : List (Value × Value)} {t e : TypeId} {key v : Value} (h : MapAt P k w b ((key, v) :: l)) (K : Go.Maps.Keyed P k) (ht : P.underlying t = some (.map k e)) :
    ∃ w', (∀ ty, (Builtin.delete_ #[t, k] ty #[.map (some b), key]).run P w = .ok (.tuple #[]) w') ∧ MapAt P k w' b l ∧ Keep (fun x => x = b) w w' ∧ w'.heap.size = w.heap.size := by
  obtain ⟨w', h1, h2⟩ := h.drop 0 K ht
  exact ⟨w', fun ty => h1, h2⟩
theorem erase_perm {r : Row} {n : Nat} {s : List (Row × Nat)} {l : List Row} (hn : (r, n) ∈ s) (h0 : 0 < n) (hp : (expand s).Perm l) : (expand (if n = 1 then s.erase (r, n) else (r, n - 1) :: s.erase (r, n))).Perm (l.erase r) := by
  have h1 := (expand_perm (List.perm_cons_erase hn)).symm.trans hp
  have h2 := h1.erase r
  rw [expand_cons] at h2
  obtain ⟨k, rfl⟩ : ∃ k, n = k + 1 := ⟨n - 1, by omega⟩
  rw [List.replicate_succ, List.cons_append, List.erase_cons_head] at h2
  split
  · next e =>
    obtain rfl : k = 0 := by omega
    simpa using h2
  · rw [expand_cons]
    simpa using h2

set_option maxHeartbeats 2000000 in
set_option maxRecDepth 100000 in
theorem unlearn_yes {base : Nat} {w : World} {mb b : Nat} {l : List Row} (r : Row) (h : Mdl base w mb b l) (hm : r ∈ l) :
    Calls Tryz.prog 7 #[.pointer (some ⟨mb, 0, none⟩), r.v] w fun e w' => e = .returned (.int .i64 0) ∧ Mdl base w' mb b (l.erase r) ∧ Keep (fun x => x = mb ∨ x = b) w w' := by
  have hne := h.ne
  have hll : ((l.erase r).length : Int) = (l.length : Int) - 1 := by
    have := List.length_erase_of_mem hm
    have := List.length_pos_of_mem hm
    omega
  have hl5 : (l.erase r).length ≤ 500 := by have := h.len; have := List.length_erase_le (a := r) (l := l); omega
  obtain ⟨s, hs, hp, h5⟩ := h
  obtain ⟨n, hn, hn0⟩ := mem_expand.1 (hp.mem_iff.2 hm)
  have hr := (hs.ok _ hn).2
  have hnb : n ≤ 500 := by
    have h1 := (expand_perm (List.perm_cons_erase hn)).length_eq
    rw [expand_cons] at h1
    simp at h1
    have := hp.length_eq
    omega
  have hep := erase_perm hn hn0 hp
  have B0 := Blk.new w 30 #[.int .i64 r.a, .int .i64 r.b, .int .i64 r.c, .int .i64 r.l]
  have k0 := (Keep.refl No w).alloc (.cells #[.int .i64 r.a, .int .i64 r.b, .int .i64 r.c, .int .i64 r.l] 30)
  have f0 := B0.cell 0
  have f1 := B0.cell 1
  have f2 := B0.cell 2
  have f3 := B0.cell 3
  simp only [List.getElem?_toArray, List.getElem?_cons_zero, List.getElem?_cons_succ] at f0 f1 f2 f3
  have HN := Lib.hid (none_any ((hs.keep k0 (fun x => x) (fun x => x)).blk.cell 0))
  have HA := Lib.hid (fun W => allowed_any r W)
  rw [decide_eq_true hr] at HA
  have HK := Lib.hid k0
  have HS := Lib.hid hs
  have HB0 := Lib.hid B0
  have HP := Lib.hid (show _ ∧ _ ∧ _ ∧ _ from ⟨hn, hep, hll, hl5⟩)
  have hl1 : (0 : Int) < (l.length : Int) := by have := List.length_pos_of_mem hm; omega
  have hl2 : (l.length : Int) ≤ 500 := by omega
  clear hs B0 k0 hr hp hn hep hm h5 hll hl5
  unfold Row.v at HA ⊢
  go_enter Tryz.func7, Tryz.ntmps7
  go_wp2_with fail
  generalize w.alloc (.cells #[.int .i64 r.a, .int .i64 r.b, .int .i64 r.c, .int .i64 r.l] 30) = w0 at *
  go_wp2_with (first
    | (go_at_call 26; refine HN.out.mono ?_; rintro e w' ⟨rfl, rfl⟩)
    | (go_at_call 27; refine (HA.out _).mono ?_; rintro e w1 ⟨rfl, k1⟩; have K1 := Lib.hid (HK.out.trans k1 (fun _ x => x.elim)); have K01 := Lib.hid k1; clear k1))
  have HS1 := Lib.hid (HS.out.keep K1.out (fun x => x) (fun x => x))
  have HB1 := Lib.hid (HB0.out.keep K01.out (fun x => x))
  have g1 := HS1.out.blk.cell 1
  have f0 := HB1.out.cell 0
  have f1 := HB1.out.cell 1
  have f2 := HB1.out.cell 2
  have f3 := HB1.out.cell 3
  simp only [List.getElem?_toArray, List.getElem?_cons_zero, List.getElem?_cons_succ] at g1 f0 f1 f2 f3
  have HM1 : Hid (∀ k, MapAt Tryz.prog 30 (w1.drewN k) b ((r.v, .int .i64 (n : Nat)) :: (s.erase (r, n)).map entV)) := Lib.hid fun k =>
    (HS1.out.map.keep ((Keep.refl No w1).drewN k) (fun x => x)).perm ((List.perm_cons_erase HP.out.1).map entV)
  have q1 : ∀ k, (Instr.lookup 41 (.map (some b)) r.v false).run Tryz.prog (w1.drewN k) = .ok (.int .i64 (n : Nat)) (w1.drewN k) := fun k => (HM1.out k).look false rowKeyed Tryz.underlying41
  unfold Row.v at q1
  clear HB0 K01 HN HA
  go_quiet (fail)
  have HMq := Lib.hid (HM1.out (nq + 1))
  have KQ := Lib.hid (show Keep No w (w1.drewN (nq + 1)) from K1.out.drewN _)
  have g1' : (w1.drewN (nq + 1)).cell? ⟨mb, 1, none⟩ = some (.map (some b)) := g1
  clear q1 HM1
  by_cases h1 : n = 1
  · subst h1
    obtain ⟨w3, hdel, m3, k3, _⟩ := drop_ty HMq.out rowKeyed Tryz.underlying41
    have k13 : Keep (fun x => x = b) w w3 := (KQ.out.mono (fun _ x => x.elim)).trans k3 (fun _ h => .inl h)
    have g2' : w3.cell? ⟨mb, 2, none⟩ = some (.int .i64 (l.length : Nat)) := (k13.cell (p := ⟨mb, 2, none⟩) HS.out.blk.lt (fun e => hne e.symm)).trans (HS.out.blk.cell 2)
    have z2 : w3.frozen? ⟨mb, 2, none⟩ = false := (k13.frozen (p := ⟨mb, 2, none⟩) HS.out.blk.lt (fun e => hne e.symm)).trans (HS.out.blk.frozen 2)
    have HF := Lib.hid (show _ ∧ _ from ⟨m3, k13⟩)
    unfold Row.v at hdel
    clear m3 k3 k13
    go_wp2_with fail
    go_region
    all_goals
      go_wp2
      go_ret
      have hks := (Keep.refl (fun x => x = mb) w3).setCell (p := ⟨mb, 2, none⟩) (.inl rfl) (.int .i64 ((l.length : Int) - 1))
      have hB3 := ((HS.out.blk.keep HF.out.2 (fun e => hne e.symm)).set_ 2 (.int .i64 ((l.length : Int) - 1)))
      rw [← HP.out.2.2.1] at hB3 hks ⊢
      refine ⟨rfl, ⟨s.erase (r, 1), ⟨hB3, HF.out.1.keep hks (fun e => hne e), fun p hp => HS.out.ok p (List.mem_of_mem_erase hp), HS.out.bm, HS.out.bb⟩, ?_, HP.out.2.2.2⟩, (HF.out.2.mono (fun x e => .inr e)).trans hks (fun x e => .inl (.inl e))⟩
      exact HP.out.2.1
  · have h2 : ¬ ((n : Int) = 1) := by omega
    have h3 : ¬ ((n : Int) = 0) := by omega
    obtain ⟨w3, hst, m3, k3, _⟩ := HMq.out.store (val := .int .i64 ((n - 1 : Nat) : Int)) rowKeyed Tryz.underlying41
    have hcast : ((n - 1 : Nat) : Int) = (n : Int) - 1 := by omega
    rw [hcast] at hst
    have k13 : Keep (fun x => x = b) w w3 := (KQ.out.mono (fun _ x => x.elim)).trans k3 (fun _ h => .inl h)
    have g2' : w3.cell? ⟨mb, 2, none⟩ = some (.int .i64 (l.length : Nat)) := (k13.cell (p := ⟨mb, 2, none⟩) HS.out.blk.lt (fun e => hne e.symm)).trans (HS.out.blk.cell 2)
    have z2 : w3.frozen? ⟨mb, 2, none⟩ = false := (k13.frozen (p := ⟨mb, 2, none⟩) HS.out.blk.lt (fun e => hne e.symm)).trans (HS.out.blk.frozen 2)
    have HF := Lib.hid (show _ ∧ _ from ⟨m3, k13⟩)
    unfold Row.v at hst
    clear m3 k3 k13 hcast
    go_wp2_with fail
    go_region
    all_goals
      go_wp2
      go_ret
      have hks := (Keep.refl (fun x => x = mb) w3).setCell (p := ⟨mb, 2, none⟩) (.inl rfl) (.int .i64 ((l.length : Int) - 1))
      have hB3 := ((HS.out.blk.keep HF.out.2 (fun e => hne e.symm)).set_ 2 (.int .i64 ((l.length : Int) - 1)))
      rw [← HP.out.2.2.1] at hB3 hks ⊢
      refine ⟨rfl, ⟨(r, n - 1) :: s.erase (r, n), ⟨hB3, HF.out.1.keep hks (fun e => hne e), fun p hp => ?_, HS.out.bm, HS.out.bb⟩, ?_, HP.out.2.2.2⟩, (HF.out.2.mono (fun x e => .inr e)).trans hks (fun x e => .inl (.inl e))⟩
      · rcases List.mem_cons.1 hp with rfl | hp
        · exact ⟨by simp; omega, (HS.out.ok _ HP.out.1).2⟩
        · exact HS.out.ok p (List.mem_of_mem_erase hp)
      · have := HP.out.2.1
        rwa [if_neg h1] at this
end Go.Proofs.YtgabidgpngiecaaGreat
