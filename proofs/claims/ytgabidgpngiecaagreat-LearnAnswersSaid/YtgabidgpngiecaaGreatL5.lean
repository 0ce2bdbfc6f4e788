/- Contract of learn's sorted. Conditions: each names its own. -/
import Derived.Test.YtgabidgpngiecaaGreatL1
import Derived.Test.YtgabidgpngiecaaGreatL4
import Derived.Deep.LoopGhost
namespace Go.Proofs.YtgabidgpngiecaaGreat
open Go.RowKit Go.Proofs.YtgabidgpngiecaaGreatKit Go.Proofs.YtgabidgpngiecaaGreatPlain Go.Sort Go.Proofs

theorem info_counted : (Tryz.prog.info? 96).map (fun i => (i.zero, i.size, i.bytes)) = some (some (.agg #[.int .i64 0, .int .i64 0, .int .i64 0, .int .i64 0, .int .i64 0]), 5, 40) := by kernel_rfl

/-- Midway through sorted: L is gathered in v, rest is to come. -/
structure SInv (w W : World) (b r : Nat) (s L rest : List (Row × Nat)) (v : Value) : Prop where
  rng : RangeAt Tryz.prog 30 W b r (s.map entV) (rest.map entV)
  cnt : Cnt w.heap.size W v L
  kp : Keep No w W
  pm : (L ++ rest).Perm s
  rw_ : w.heap.size ≤ r
  ln : L.length + rest.length ≤ 500
section
variable {w W W' : World} {b r : Nat} {s L rest : List (Row × Nat)} {v : Value} {S : Nat → Prop}
theorem SInv.ne (h : SInv w W b r s L rest v) : ∀ k, v.ownBlock = some k → k ≠ r := by
  intro k hk e
  subst e
  obtain ⟨_, ⟨rfl, _⟩ | ⟨g, cap, cur, rfl, _, hg, _⟩⟩ := h.cnt
  · cases hk
  · cases hk
    obtain ⟨_, _, _, _, _, _, _, _, _, _, hr, _⟩ := h.rng
    rw [hg] at hr
    cases hr
theorem SInv.at_b (h : SInv w W b r s L rest v) (hb : b < w.heap.size) : ∀ k, v.ownBlock = some k → k ≠ b := fun k hk e => by
  have := (h.cnt.lt k hk).1
  omega
theorem SInv.new_ (h : SInv w W b r s L rest v) (hk : Keep No W W') : SInv w W' b r s L rest v :=
  ⟨h.rng.keep hk (fun x => x) (fun x => x), h.cnt.keep hk (fun _ _ x => x), h.kp.trans hk (fun _ x => x.elim), h.pm, h.rw_, h.ln⟩
end
theorem rec_at {base n : Nat} {w : World} {e : TypeId} {cs : List Value} (o : Obj) (he : mutTy e = false) (hn : w.heap.size = n) : Reads base ((w.alloc o).alloc (.cells cs.toArray e)) e cs.length (some ⟨n + 1, 0, none⟩) 1 cs := by
  have hB := Blk.new (w.alloc o) e cs.toArray
  have hz : (w.alloc o).heap.size = n + 1 := by simp [hn]
  rw [hz] at hB
  refine ⟨by simp, fun _ => ⟨_, rfl, hB.imm he, fun j u hu => ?_⟩⟩
  have := hB.cell j
  rw [Addr.add_lit, Nat.zero_add, this]
  simpa using hu
theorem SInv.mid {w wr w3 : World} {b r : Nat} {s L rest : List (Row × Nat)} {v : Value} (h : SInv w wr b r s L rest v) (hk3 : Keep (fun x => x = r) wr w3) (o1 o2 : Obj) : Cnt w.heap.size ((w3.alloc o1).alloc o2) v L :=
  (h.cnt.keep hk3 (fun k hk e => h.ne k hk e)).keep (((Keep.refl No w3).alloc o1).alloc o2) (fun _ _ x => x)
theorem SInv.push {w wr w3 w4 : World} {b r : Nat} {s L rest rest' : List (Row × Nat)} {v v' : Value} {p : Row × Nat} (h : SInv w wr b r s L rest v) (hb : b < w.heap.size) (hr3 : RangeAt Tryz.prog 30 w3 b r (s.map entV) (rest'.map entV)) (hk3 : Keep (fun x => x = r) wr w3) (hpr : rest.Perm (p :: rest'))
    (o1 o2 : Obj) (ho : w4.ownsRow w.heap.size 96 5 v' (L.length + 1) (cells5 L ++ encC p)) (hg : ((w3.alloc o1).alloc o2).grownBy w4 v.ownBlock) : SInv w w4 b r s (L ++ [p]) rest' v' := by
  have hk4 : Keep (fun x => v.ownBlock = some x) w3 w4 := (((Keep.refl _ w3).alloc o1).alloc o2).grown hg (fun k e => .inl e)
  have hsz : w.heap.size ≤ w3.heap.size := Nat.le_trans h.kp.size hk3.size
  refine ⟨hr3.keep hk4 (fun e => h.at_b hb _ e rfl) (fun e => h.ne _ e rfl), ?_, ?_, ?_, h.rw_, ?_⟩
  · unfold Cnt
    rw [← cells5_push, List.length_append]
    exact ho
  · exact (h.kp.trans hk3 (fun x e => .inr (e ▸ h.rw_))).trans hk4 (fun x e => .inr (h.cnt.lt x e).1)
  · have := (List.Perm.append_left L hpr).symm.trans h.pm
    simpa using this
  · have h1 := hpr.length_eq
    have h2 := h.ln
    simp at h1 ⊢
    omega
theorem hPR_len {rest rest' : List (Row × Nat)} {p : Row × Nat} (h : rest.Perm (p :: rest')) : rest.length = rest'.length + 1 := h.length_eq
theorem perm_entV {rest : List (Row × Nat)} {key v : Value} {l : List (Value × Value)} (h : (rest.map entV).Perm ((key, v) :: l)) : ∃ p rest', key = p.1.v ∧ v = .int .i64 (p.2 : Nat) ∧ rest.Perm (p :: rest') ∧ l.Perm (rest'.map entV) := by
  have hm : (key, v) ∈ rest.map entV := h.mem_iff.2 (List.mem_cons_self ..)
  obtain ⟨p, hp, e⟩ := List.mem_map.1 hm
  have hpe := List.perm_cons_erase hp
  have h2 := (hpe.map entV).symm.trans h
  rw [List.map_cons, e] at h2
  unfold entV at e
  injection e with e1 e2
  exact ⟨p, rest.erase p, e1.symm, e2.symm, hpe, (List.Perm.cons_inv h2).symm⟩

set_option maxHeartbeats 2000000 in
set_option maxRecDepth 100000 in
theorem sorted_full {base : Nat} {w : World} {mb b : Nat} {l : List Row} (h : Mdl base w mb b l) :
    Calls Tryz.prog 33 #[.pointer (some ⟨mb, 0, none⟩)] w fun e w' => ∃ v L, e = .returned v ∧ Cnt w.heap.size w' v L ∧ L.Pairwise (fun p q => ¬ lexLt q.1 p.1) ∧ (expand L).Perm l ∧ L.length ≤ 500 ∧ (∀ p ∈ L, 0 < p.2 ∧ okRow p.1) ∧ Keep No w w' ∧ L.Pairwise (fun p q => p.1 ≠ q.1) := by
  obtain ⟨s, hs, hp, h5⟩ := h
  obtain ⟨i0, hi0, hz0, hz1, hz2⟩ := info_parts info_counted
  have hsl : s.length ≤ 500 := by
    have h2 := expand_len hs.ok
    have h3 := hp.length_eq
    omega
  have HN := Lib.hid (none_any (hs.blk.cell 0))
  have g1 := hs.blk.cell 1
  simp only [List.getElem?_toArray, List.getElem?_cons_zero, List.getElem?_cons_succ] at g1
  have HD := Lib.hid (show s.Pairwise (fun p q => p.1 ≠ q.1) from by
    have h0 := hs.map.nodup
    rw [List.pairwise_map] at h0
    exact h0.imp (fun h e => h (by unfold entV; rw [e])))
  have HM := Lib.hid hs.map
  have HS := Lib.hid hs
  have HP := Lib.hid hp
  have hbw := hs.map.lt
  have hsz := hs.blk.lt
  clear hs hp
  go_enter Tryz.func33, Tryz.ntmps33
  go_wp2_with (first
    | (go_at_call 26; refine HN.out.mono ?_; rintro e w' ⟨rfl, rfl⟩)
    | (at_len; refine wpList_maplen _ rfl _ _ rfl _ _ Tryz.underlying41 b _ rfl HM.out ?_)
    | (at_make; refine wpList_make_own _ rfl _ _ _ rfl w.heap.size 96 i0 _ 5 Tryz.underlying81 hi0 hz0 hz1 _ _ _ s.length rfl rfl (by simp) (by rw [hz2]; omega) (by simp [maxLen]; omega) (Nat.le_refl _) ?_; intro w1 hown1 hg1; have HO1 := Lib.hid hown1; have HK1 := Lib.hid ((Keep.refl No w).grown hg1 (fun k e => by cases e)); have g1' := (HK1.out.cell (p := ⟨mb, 1, none⟩) hsz (fun x => x)).trans g1; clear hown1 hg1)
    | (at_range; refine wpList_range _ rfl _ _ rfl _ _ Tryz.underlying41 b _ rfl (HM.out.keep HK1.out (fun x => x)) ?_; intro w2 hr2 hk2 hz3; have HR2 := Lib.hid hr2; have HK2 := Lib.hid hk2; clear hr2 hk2 hz3))
  have HI := Lib.hid (show SInv w w2 b w1.heap.size s [] s (.slice (some ⟨w.heap.size, 0, none⟩) 0 s.length) from
    ⟨HR2.out, Cnt.keep HO1.out HK2.out (fun _ _ x => x), HK1.out.trans HK2.out (fun _ x => x.elim), List.Perm.refl _, HK1.out.size, by simpa using hsl⟩)
  clear HO1 HK1 HK2 HR2 HN HM g1 g1'
  go_frame
  go_loopg [3] s.length (fun m v3 wr => ∃ L rest, Hid (SInv w wr b w1.heap.size s L rest v3) ∧ Hid (rest.length = m))
  case atStart => exact ⟨[], s, HI, Lib.hid rfl⟩
  case round =>
    clear HI
    obtain ⟨L, rest, hI, hm⟩ := hrel
    go_wp2_with (at_next; refine wpList_next _ rfl _ rfl 30 b w1.heap.size (s.map entV) (rest.map entV) rfl hI.out.rng ?_ ?_)
    · intro hdone
      have hr0 : rest = [] := by simpa using hdone
      subst hr0
      have hL : L.length ≤ 500 := by have := hI.out.ln; simpa using this
      have HC := Lib.hid (sort_any hI.out.cnt (by omega))
      go_wp2_with (go_at_call 56; refine HC.out.mono ?_; rintro e w' ⟨rfl, L', hp1, hp2, hp3, hp4⟩; have HE := Lib.hid (show _ ∧ _ ∧ _ ∧ _ from ⟨hp1, hp2, hp3, hp4⟩); clear hp1 hp2 hp3 hp4)
      go_ret
      obtain ⟨hp1, hp2, hp3, hp4⟩ := HE.out
      have hps : L'.Perm s := hp1.trans (by simpa using hI.out.pm)
      exact ⟨_, L', rfl, hp3, hp2, (expand_perm hps).trans HP.out, by rw [hp1.length_eq]; exact hL, fun q hq => HS.out.ok q (hps.mem_iff.1 hq), hI.out.kp.trans hp4 (fun x e => .inr (hI.out.cnt.lt x e).1), hps.symm.pairwise HD.out (fun h e => h e.symm)⟩
    · intro key v left' w3 hpm hr3 hk3 hz3 hen
      obtain ⟨p, rest', rfl, rfl, hpr, hpl⟩ := perm_entV hpm
      have HR3 := Lib.hid (hr3.perm hpl)
      have HK3 := Lib.hid hk3
      have HPR := Lib.hid hpr
      clear hpm hr3 hk3 hpl hpr
      unfold Row.v at hen ⊢
      have hz3' := Lib.hid hz3
      have hln := hI.out.ln
      have h1p := hPR_len HPR.out
      go_wp2_with (at_builtin; refine wpList_append_any _ rfl (.tmp 24) (.tmp 28) _ rfl w.heap.size 96 i0 _ 5 40 Tryz.underlying81 hi0 hz0 hz1 hz2 rfl (by omega) _ _ _ rfl (hI.out.mid HK3.out _ _) 0 _ 1 1 (encC p) rfl (rec_at _ rfl hz3'.out) (encC_one p) (by simp [maxLen]; omega) (by omega) (by have := hI.out.kp.size; have := HK3.out.size; simp; omega) ?_; intro v4 w4 hown4 hg4 _; have H4 := Lib.hid (hI.out.push hbw HR3.out HK3.out HPR.out _ _ hown4 hg4); clear hown4 hg4)
      go_roundg rest'.length
      case measure => have := hm.out; omega
      case rel => exact ⟨_, _, H4, Lib.hid rfl⟩
theorem sorted_any {base : Nat} {w : World} {mb b : Nat} {l : List Row} (h : Mdl base w mb b l) :
    Calls Tryz.prog 33 #[.pointer (some ⟨mb, 0, none⟩)] w fun e w' => ∃ v L, e = .returned v ∧ Cnt w.heap.size w' v L ∧ L.Pairwise (fun p q => ¬ lexLt q.1 p.1) ∧ (expand L).Perm l ∧ L.length ≤ 500 ∧ (∀ p ∈ L, 0 < p.2 ∧ okRow p.1) ∧ Keep No w w' :=
  (sorted_full h).mono fun _ _ ⟨v, L, h1, h2, h3, h4, h5, h6, h7, _⟩ => ⟨v, L, h1, h2, h3, h4, h5, h6, h7⟩
end Go.Proofs.YtgabidgpngiecaaGreat
