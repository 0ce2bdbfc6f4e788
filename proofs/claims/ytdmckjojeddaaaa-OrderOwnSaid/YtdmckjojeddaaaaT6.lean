/- Contracts of order's New, real, side, find, drop. Conditions: each names its own. -/
import Derived.Test.YtdmckjojeddaaaaT4
import Derived.Deep.LoopGhost
namespace Go.Proofs.Ytdmckjojeddaaaa
open Go.RowKit Go.Proofs.YtdmckjojeddaaaaKit Go.Proofs.YtdmckjojeddaaaaPlain

set_option maxHeartbeats 400000 in
theorem new_any (seed : Int) (w : World) : Calls Try.prog 20 #[.int .u64 seed] w fun e w' =>
    e = .returned (.pointer (some ⟨w.heap.size, 0, none⟩)) ∧ w' = w.alloc (.cells #[.bool true, .int .u64 seed, .pointer none] 106) := by
  go_enter Try.func20, Try.ntmps20
  go_wp2
  go_ret
  exact ⟨rfl, rfl⟩

section
variable {base : Nat} {w : World} {seed : Int} {mb : Nat} {root : Option Addr}
set_option maxHeartbeats 400000 in
theorem real_any (h : MapHas base w mb seed root) : Calls Try.prog 64 #[.pointer (some ⟨mb, 0, none⟩)] w fun e w' => e = .returned (.bool true) ∧ w = w' := by
  obtain ⟨m0, _, _⟩ := h.cells
  clear h
  go_enter Try.func64, Try.ntmps64
  go_wp2
  go_ret
  exact ⟨rfl, rfl⟩
set_option maxHeartbeats 400000 in
theorem real_nil : Calls Try.prog 64 #[.pointer none] w fun e w' => e = .returned (.bool false) ∧ w = w' := by
  go_enter Try.func64, Try.ntmps64
  go_wp2
  go_ret
  exact ⟨rfl, rfl⟩
set_option maxHeartbeats 400000 in
theorem real_zero (h : w.cell? ⟨mb, 0, none⟩ = some (.bool false)) : Calls Try.prog 64 #[.pointer (some ⟨mb, 0, none⟩)] w fun e w' => e = .returned (.bool false) ∧ w = w' := by
  go_enter Try.func64, Try.ntmps64
  go_wp2
  go_ret
  exact ⟨rfl, rfl⟩
set_option maxHeartbeats 400000 in
theorem side_any {b : Nat} {k v : List UInt8} {lp rp : Option Addr} {sz dg c : Int} (h : Node base w seed b k v lp rp sz dg) :
    Calls Try.prog 71 #[.pointer (some ⟨b, 0, none⟩), .int .i64 c] w fun e w' => e = .returned (.pointer (if c < 0 then lp else rp)) ∧ w = w' := by
  obtain ⟨_, _, _, _, _, _, _, _, _, c3, c4, _⟩ := h.cells
  clear h
  by_cases hc : c < 0
  · rw [if_pos hc]
    go_enter Try.func71, Try.ntmps71
    go_wp2
    go_ret
    exact ⟨rfl, rfl⟩
  · rw [if_neg hc]
    go_enter Try.func71, Try.ntmps71
    go_wp2
    go_ret
    exact ⟨rfl, rfl⟩
end

def AT.find (key : List UInt8) : AT → AT
  | .nil => .nil
  | .node b k v l r => if key = k then .node b k v l r else if Lt key k then find key l else find key r

set_option maxHeartbeats 1000000 in
set_option maxRecDepth 100000 in
theorem find_any {base : Nat} {w : World} {seed : Int} {mb : Nat} {t : AT} {A : Option Addr} {n c : Nat} {key : List UInt8} (hm : MapHas base w mb seed t.ptr) (ht : Rep base w seed t) (hk : Bytes base w A n key) :
    Calls Try.prog 82 #[.pointer (some ⟨mb, 0, none⟩), .slice A n c] w fun e w' => e = .returned (.pointer (t.find key).ptr) ∧ w = w' ∧ Rep base w seed (t.find key) := by
  obtain ⟨_, _, m2⟩ := hm.cells
  have HR := Lib.hid (real_any hm)
  have HK := Lib.hid hk
  have HT := Lib.hid ht
  clear hm hk ht
  go_enter Try.func82, Try.ntmps82
  go_wp2_with (go_at_call 64; refine HR.out.mono ?_; rintro e w' ⟨rfl, rfl⟩)
  go_loopg [5] t.size (fun m v5 wr => ∃ s : AT, v5 = .pointer s.ptr ∧ Hid (s.size = m) ∧ Hid (s.find key = t.find key) ∧ Hid (Rep base w seed s) ∧ Hid (w = wr))
  case atStart => exact ⟨t, rfl, Lib.hid rfl, Lib.hid rfl, HT, Lib.hid rfl⟩
  case round =>
    obtain ⟨s, rfl, hg, hs, hr, hwr⟩ := hrel
    obtain rfl := hwr.out
    cases s with
    | nil =>
      rw [ptr_nil]
      go_wp2
      go_ret
      rw [← hs.out]
      exact ⟨rfl, rfl, trivial⟩
    | node b k v l r =>
      rw [ptr_node]
      obtain ⟨A1, c1, _, _, hA, _, e0, _⟩ := hr.out.root.cells
      have hcmp := bcompare A A1 _ c _ c1 key k w HK.out hA
      have hsd := fun c : Int => side_any (c := c) hr.out.root
      have HSd := Lib.hid hsd
      clear hsd hA
      by_cases hkk : key = k
      · rw [cb_eq.2 hkk] at hcmp
        have e9 : (AT.node b k v l r).find key = .node b k v l r := by rw [AT.find, if_pos hkk]
        have hs2 := Lib.hid (e9.symm.trans hs.out)
        have HC := Lib.hid hcmp
        clear hcmp e9 hs hkk
        go_wp2_with (go_at_call 61; refine HC.out.mono ?_; rintro e w' ⟨rfl, rfl⟩)
        go_ret
        rw [← hs2.out]
        exact ⟨rfl, rfl, hr.out⟩
      · by_cases hlt : Lt key k
        · rw [cb_lt hlt] at hcmp
          have e9 : (AT.node b k v l r).find key = l.find key := by rw [AT.find, if_neg hkk, if_pos hlt]
          have hs2 := Lib.hid (e9.symm.trans hs.out)
          have HC := Lib.hid hcmp
          have hlt2 : l.size < gk := by have := hg.out; simp only [AT.size] at this; omega
          clear hcmp e9 hs hkk hlt
          go_wp2_with (first | (go_at_call 61; refine HC.out.mono ?_; rintro e w' ⟨rfl, rfl⟩) | (go_at_call 71; refine (HSd.out (-1)).mono ?_; rintro e w' ⟨rfl, rfl⟩; rw [if_pos (by omega)]))
          go_roundg l.size
          case measure => omega
          case rel => exact ⟨l, rfl, Lib.hid rfl, hs2, Lib.hid hr.out.2.1, Lib.hid rfl⟩
        · have hgt := (not_lt.1 hlt).resolve_left hkk
          rw [cb_gt hgt] at hcmp
          have e9 : (AT.node b k v l r).find key = r.find key := by rw [AT.find, if_neg hkk, if_neg hlt]
          have hs2 := Lib.hid (e9.symm.trans hs.out)
          have HC := Lib.hid hcmp
          have hlt2 : r.size < gk := by have := hg.out; simp only [AT.size] at this; omega
          clear hcmp e9 hs hkk hlt hgt
          go_wp2_with (first | (go_at_call 61; refine HC.out.mono ?_; rintro e w' ⟨rfl, rfl⟩) | (go_at_call 71; refine (HSd.out 1).mono ?_; rintro e w' ⟨rfl, rfl⟩; rw [if_neg (by omega)]))
          go_roundg r.size
          case measure => omega
          case rel => exact ⟨r, rfl, Lib.hid rfl, hs2, Lib.hid hr.out.2.2, Lib.hid rfl⟩

def AT.drop (seed : Int) (key : List UInt8) : AT → AT
  | .nil => .nil
  | .node b k v l r => if key = k then AT.merge seed l r else if Lt key k then .node b k v (drop seed key l) r else .node b k v l (drop seed key r)
theorem drop_mem {seed : Int} {key : List UInt8} {t : AT} {x : Nat} (h : x ∈ (t.drop seed key).blocks) : x ∈ t.blocks := by
  induction t with
  | nil => exact h
  | node b k v l r ihl ihr =>
    rw [AT.drop] at h
    split at h
    · have := ((merge_perm seed _ l r (Nat.le_refl _)).1.mem_iff).1 h
      simp only [AT.blocks]; exact List.mem_cons_of_mem _ this
    · split at h
      · simp only [AT.blocks, List.mem_cons, List.mem_append] at h ⊢
        rcases h with h | h | h
        · exact .inl h
        · exact .inr (.inl (ihl h))
        · exact .inr (.inr h)
      · simp only [AT.blocks, List.mem_cons, List.mem_append] at h ⊢
        rcases h with h | h | h
        · exact .inl h
        · exact .inr (.inl h)
        · exact .inr (.inr (ihr h))
theorem drop_nodup {seed : Int} {key : List UInt8} {t : AT} (h : t.blocks.Nodup) : (t.drop seed key).blocks.Nodup := by
  induction t with
  | nil => exact h
  | node b k v l r ihl ihr =>
    obtain ⟨n1, n2, n3, n4, n5⟩ := nodup_node h
    rw [AT.drop]
    split
    · exact ((merge_perm seed _ l r (Nat.le_refl _)).1.nodup_iff).2 (by simp only [AT.blocks, List.nodup_cons] at h; exact h.2)
    · split
      · simp only [AT.blocks, List.nodup_cons, List.mem_append, not_or, List.nodup_append]
        exact ⟨⟨fun h => n1 (drop_mem h), n2⟩, ihl n3, n4, fun x hx y hy e => n5 x (drop_mem hx) (e ▸ hy)⟩
      · simp only [AT.blocks, List.nodup_cons, List.mem_append, not_or, List.nodup_append]
        exact ⟨⟨n1, fun h => n2 (drop_mem h)⟩, n3, ihr n4, fun x hx y hy e => n5 x hx (drop_mem (e ▸ hy))⟩
theorem drop_size (seed : Int) (key : List UInt8) (t : AT) : (t.drop seed key).size ≤ t.size := by
  induction t with
  | nil => exact Nat.le_refl _
  | node b k v l r ihl ihr =>
    rw [AT.drop]
    split
    · have := (merge_perm seed _ l r (Nat.le_refl _)).2; simp only [AT.size]; omega
    · split <;> simp only [AT.size] <;> omega

end Go.Proofs.Ytdmckjojeddaaaa

namespace Go.Proofs.Ytdmckjojeddaaaa
open Go.RowKit Go.Proofs.YtdmckjojeddaaaaKit Go.Proofs.YtdmckjojeddaaaaPlain

set_option maxHeartbeats 4000000 in
set_option maxRecDepth 100000 in
theorem drop_low {base : Nat} {seed : Int} {mb : Nat} {root : Option Addr} {A : Option Addr} {n c : Nat} {key : List UInt8} (t : AT) : ∀ (w : World), MapHas base w mb seed root → Rep base w seed t → t.blocks.Nodup → Bytes base w A n key → t.find key ≠ .nil → t.size < 900000000 →
    Calls Try.prog 85 #[.pointer (some ⟨mb, 0, none⟩), .pointer t.ptr, .slice A n c] w fun e w' =>
      e = .returned (.pointer (t.drop seed key).ptr) ∧ Rep base w' seed (t.drop seed key) ∧ Keep (In t.blocks) w w' ∧ Low w w' := by
  induction t with
  | nil => intro w _ _ _ _ h _; exact absurd rfl h
  | node b k v l r ihl ihr =>
    intro w hm ht hnd hk hfd hsz
    obtain ⟨n1, n2, n3, n4, n5⟩ := nodup_node hnd
    have hN := ht.root
    obtain ⟨A1, c1, B1, d1, hA, hB, e0, e1, e2, e3, e4, e5, e6⟩ := hN.cells
    have hcmp := bcompare A A1 _ c _ c1 key k w hk hA
    rw [ptr_node]
    have hbs := hN.lt
    by_cases hkk : key = k
    · have e9 : (AT.node b k v l r).drop seed key = AT.merge seed l r := by rw [AT.drop, if_pos hkk]
      rw [e9]
      rw [cb_eq.2 hkk] at hcmp
      have hd := (Keep.refl No w).drew
      have HI := Lib.hid (merge_low (base := base) (seed := seed) (mb := mb) (root := root) _ l r w.drew (Nat.le_refl _) (hm.keep hd (fun x => x)) (ht.2.1.new_ hd) (ht.2.2.new_ hd) n3 n4 n5 (by simp only [AT.size] at hsz; omega))
      generalize AT.merge seed l r = q at *
      have HC := Lib.hid hcmp
      clear hcmp hm ht hA hB hN e9 ihl ihr hkk hnd e1 e2 e5 e6 hfd hk hd
      go_enter Try.func85, Try.ntmps85
      go_wp2_with (go_at_call 61; refine HC.out.mono ?_; rintro e w' ⟨rfl, rfl⟩)
      clear HC e0
      go_region_held3 (fun w' => w'.cell? ⟨b, 3, none⟩ = some (.pointer l.ptr) ∧ w'.cell? ⟨b, 4, none⟩ = some (.pointer r.ptr))
        (first
          | exact ⟨(hkd.cell (p := ⟨b, 3, none⟩) hbs (fun h => (List.mem_append.1 h).elim n1 n2)).trans e3, (hkd.cell (p := ⟨b, 4, none⟩) hbs (fun h => (List.mem_append.1 h).elim n1 n2)).trans e4⟩
          | exact ⟨e3, e4⟩
          | go_keep)
        (first
          | (go_at_call 87; refine HI.out.mono ?_; rintro e w2 ⟨rfl, hq, hkd, hld⟩))
      have HF := Lib.hid (show _ ∧ _ from ⟨hq, (hkd.of_drew).mono (S' := In (AT.node b k v l r).blocks) (fun x h => List.mem_cons_of_mem _ h)⟩)
      have HLo3 := Lib.hid ((Low.no ((Keep.refl No w).drew)).trans hld)
      clear hld
      clear hq hkd HI
      go_wp2
      go_ret
      exact ⟨rfl, HF.out.1, HF.out.2, HLo3.out⟩
    · have hcz : (Lib.compareBytes key k == 0) = false := by simp [cb_eq, hkk]
      by_cases hlt : Lt key k
      · have e9 : (AT.node b k v l r).drop seed key = .node b k v (l.drop seed key) r := by rw [AT.drop, if_neg hkk, if_pos hlt]
        have hf9 : l.find key ≠ .nil := by rwa [AT.find, if_neg hkk, if_pos hlt] at hfd
        rw [e9, ptr_node]
        have HI := Lib.hid (ihl w hm ht.2.1 n3 hk hf9 (by simp only [AT.size] at hsz; omega))
        have hpm := Lib.hid (fun x (h : x ∈ (l.drop seed key).blocks) => drop_mem h)
        have hps := Lib.hid (drop_size seed key l)
        have hsz3 : l.size + r.size < 900000000 := by simp only [AT.size] at hsz; omega
        generalize l.drop seed key = q at *
        have hbq : b ∉ q.blocks := fun h => n1 (hpm.out b h)
        have hcl : Lib.compareBytes key k < 0 := hlt
        generalize Lib.compareBytes key k = z at *
        have HC := Lib.hid hcmp
        have HT := Lib.hid (show _ ∧ _ from ⟨hm, ht⟩)
        clear hcmp hm ht hA hB hN e9 hf9 ihl ihr hkk hlt hnd e1 e2 e4 e5 e6 hfd hk
        go_enter Try.func85, Try.ntmps85
        go_wp2_with fail
        refine HC.out.mono ?_
        rintro e w' ⟨rfl, rfl⟩
        go_wp2_with fail
        refine HI.out.mono ?_
        rintro e w3 ⟨rfl, hqr, hk3, hl3⟩
        have HLo1 := Lib.hid hl3
        clear hl3
        have hmt : ∀ x, In l.blocks x → Mut base w x := fun x hx => HT.out.2.2.1.mut x hx
        have N3 := HT.out.2.root.keep hk3 hmt n1
        have O3 := HT.out.2.2.2.keep hk3 hmt (fun x hx h => n5 x h hx)
        have M3 := HT.out.1.keep hk3 (HT.out.1.ne HT.out.2.2.1)
        obtain ⟨_, _, _, _, _, _, _, _, _, g3, g4, _⟩ := N3.cells
        have f3 := N3.frozen 3
        have H3 := Lib.hid (show _ ∧ _ ∧ _ ∧ _ ∧ _ from ⟨N3, O3, M3, hqr, hk3⟩)
        clear HT HI HC N3 O3 M3 hqr hk3 hmt g4
        go_wp2_with fail
        obtain ⟨N3, O3, M3, hqr, hk3⟩ := H3.out
        have hone : ∀ x, Only b x → Mut base w3 x := fun x e => e ▸ N3.mut
        have S4 : Keep (Only b) w3 (w3.setCell ⟨b, 3, none⟩ (.pointer q.ptr)) := (Keep.refl (Only b) w3).setCell (p := ⟨b, 3, none⟩) (.inl rfl) _
        refine (fresh_low (M3.keep S4 (M3.ne_node N3)) (N3.set3 q.ptr) (hqr.keep S4 hone (fun x hx e => hbq (e ▸ hx))) (O3.keep S4 hone (fun x hx e => n2 (e ▸ hx))) hbq n2 (by have := hps.out; omega)).mono ?_
        rintro e w5 ⟨rfl, hrep, hk5, hl5⟩
        have HLo3 := Lib.hid ((HLo1.out.set b 3 (by omega) _).trans hl5)
        clear hl5 HLo1
        have hk := (hk3.mono (S' := In (AT.node b k v l r).blocks) (fun x h => List.mem_cons_of_mem _ (List.mem_append_left _ h))).trans (S4.trans hk5 (fun x e => .inl e)) (fun x e => .inl (by subst e; simp [In, AT.blocks]))
        have HF := Lib.hid (show _ ∧ _ from ⟨hrep, hk⟩)
        clear hrep hk hk5 S4 hone N3 O3 M3 hqr hk3 H3
        go_wp2
        go_ret
        exact ⟨rfl, HF.out.1, HF.out.2, HLo3.out⟩
      · have e9 : (AT.node b k v l r).drop seed key = .node b k v l (r.drop seed key) := by rw [AT.drop, if_neg hkk, if_neg hlt]
        have hf9 : r.find key ≠ .nil := by rwa [AT.find, if_neg hkk, if_neg hlt] at hfd
        rw [e9, ptr_node]
        have HI := Lib.hid (ihr w hm ht.2.2 n4 hk hf9 (by simp only [AT.size] at hsz; omega))
        have hpm := Lib.hid (fun x (h : x ∈ (r.drop seed key).blocks) => drop_mem h)
        have hps := Lib.hid (drop_size seed key r)
        have hsz3 : l.size + r.size < 900000000 := by simp only [AT.size] at hsz; omega
        generalize r.drop seed key = q at *
        have hbq : b ∉ q.blocks := fun h => n2 (hpm.out b h)
        have hcl : ¬ Lib.compareBytes key k < 0 := hlt
        generalize Lib.compareBytes key k = z at *
        have HC := Lib.hid hcmp
        have HT := Lib.hid (show _ ∧ _ from ⟨hm, ht⟩)
        clear hcmp hm ht hA hB hN e9 hf9 ihl ihr hkk hlt hnd e1 e2 e3 e5 e6 hfd hk
        go_enter Try.func85, Try.ntmps85
        go_wp2_with fail
        refine HC.out.mono ?_
        rintro e w' ⟨rfl, rfl⟩
        go_wp2_with fail
        refine HI.out.mono ?_
        rintro e w3 ⟨rfl, hqr, hk3, hl3⟩
        have HLo1 := Lib.hid hl3
        clear hl3
        have hmt : ∀ x, In r.blocks x → Mut base w x := fun x hx => HT.out.2.2.2.mut x hx
        have N3 := HT.out.2.root.keep hk3 hmt n2
        have O3 := HT.out.2.2.1.keep hk3 hmt (fun x hx h => n5 x hx h)
        have M3 := HT.out.1.keep hk3 (HT.out.1.ne HT.out.2.2.2)
        obtain ⟨_, _, _, _, _, _, _, _, _, g3, g4, _⟩ := N3.cells
        have f4 := N3.frozen 4
        have H3 := Lib.hid (show _ ∧ _ ∧ _ ∧ _ ∧ _ from ⟨N3, O3, M3, hqr, hk3⟩)
        clear HT HI HC N3 O3 M3 hqr hk3 hmt g3
        go_wp2_with fail
        obtain ⟨N3, O3, M3, hqr, hk3⟩ := H3.out
        have hone : ∀ x, Only b x → Mut base w3 x := fun x e => e ▸ N3.mut
        have S4 : Keep (Only b) w3 (w3.setCell ⟨b, 4, none⟩ (.pointer q.ptr)) := (Keep.refl (Only b) w3).setCell (p := ⟨b, 4, none⟩) (.inl rfl) _
        refine (fresh_low (M3.keep S4 (M3.ne_node N3)) (N3.set4 q.ptr) (O3.keep S4 hone (fun x hx e => n1 (e ▸ hx))) (hqr.keep S4 hone (fun x hx e => hbq (e ▸ hx))) n1 hbq (by have := hps.out; omega)).mono ?_
        rintro e w5 ⟨rfl, hrep, hk5, hl5⟩
        have HLo3 := Lib.hid ((HLo1.out.set b 4 (by omega) _).trans hl5)
        clear hl5 HLo1
        have hk := (hk3.mono (S' := In (AT.node b k v l r).blocks) (fun x h => List.mem_cons_of_mem _ (List.mem_append_right _ h))).trans (S4.trans hk5 (fun x e => .inl e)) (fun x e => .inl (by subst e; simp [In, AT.blocks]))
        have HF := Lib.hid (show _ ∧ _ from ⟨hrep, hk⟩)
        clear hrep hk hk5 S4 hone N3 O3 M3 hqr hk3 H3
        go_wp2
        go_ret
        exact ⟨rfl, HF.out.1, HF.out.2, HLo3.out⟩

theorem drop_any {base : Nat} {seed : Int} {mb : Nat} {root : Option Addr} {A : Option Addr} {n c : Nat} {key : List UInt8} (t : AT) : ∀ (w : World), MapHas base w mb seed root → Rep base w seed t → t.blocks.Nodup → Bytes base w A n key → t.find key ≠ .nil → t.size < 900000000 →
    Calls Try.prog 85 #[.pointer (some ⟨mb, 0, none⟩), .pointer t.ptr, .slice A n c] w fun e w' =>
      e = .returned (.pointer (t.drop seed key).ptr) ∧ Rep base w' seed (t.drop seed key) ∧ Keep (In t.blocks) w w' :=
  fun w h1 h2 h3 h4 h5 h6 => (drop_low t w h1 h2 h3 h4 h5 h6).mono fun _ _ ⟨h1, h2, h3, _⟩ => ⟨h1, h2, h3⟩
end Go.Proofs.Ytdmckjojeddaaaa

namespace Go.Proofs.Ytdmckjojeddaaaa
open Go.RowKit Go.Proofs.YtdmckjojeddaaaaKit Go.Proofs.YtdmckjojeddaaaaPlain

/-- A map lies in memory. -/
structure MObj (base : Nat) (w : World) (mb : Nat) (seed : Int) (t : AT) : Prop where
  has : MapHas base w mb seed t.ptr
  rep : Rep base w seed t
  nodup : t.blocks.Nodup
theorem MObj.keep {base : Nat} {w w1 : World} {mb : Nat} {seed : Int} {t : AT} {S : Nat → Prop} (h : MObj base w mb seed t) (hk : Keep S w w1) (hs : ∀ b, S b → Mut base w b) (h1 : ¬ S mb) (h2 : ∀ b ∈ t.blocks, ¬ S b) : MObj base w1 mb seed t :=
  ⟨h.has.keep hk h1, h.rep.keep hk hs h2, h.nodup⟩
theorem MObj.new_ {base : Nat} {w w1 : World} {mb : Nat} {seed : Int} {t : AT} (h : MObj base w mb seed t) (hk : Keep No w w1) : MObj base w1 mb seed t := h.keep hk (fun _ x => x.elim) (fun x => x) (fun _ _ x => x)
theorem MObj.mut {base : Nat} {w : World} {mb : Nat} {seed : Int} {t : AT} (h : MObj base w mb seed t) : ∀ x, In (mb :: t.blocks) x → Mut base w x := fun x hx => (List.mem_cons.1 hx).elim (fun e => e ▸ h.has.mut) (fun h' => h.rep.mut x h')

/-- The bytes of the nodes lie outside of some blocks. -/
def Clean (Bad : Nat → Prop) (w : World) (t : AT) : Prop := ∀ b ∈ t.blocks, ∀ i, i ≤ 1 → ∀ A n c, 0 < n → w.cell? ⟨b, i, none⟩ = some (.slice A n c) → ∀ ad, A = some ad → ¬ Bad ad.block
theorem Clean.sub {Bad : Nat → Prop} {w : World} {t u : AT} (h : Clean Bad w t) (hu : ∀ b ∈ u.blocks, b ∈ t.blocks) : Clean Bad w u := fun b hb => h b (hu b hb)
theorem Clean.low {Bad : Nat → Prop} {w w' : World} {t : AT} (h : Clean Bad w t) (hl : Low w w') (hlt : ∀ b ∈ t.blocks, b < w.heap.size) : Clean Bad w' t := fun b hb i hi A n c hn hc => h b hb i hi A n c hn ((hl.2 b i (hlt b hb) hi).symm.trans hc)
/-- The bytes of a new node are new. -/
def NewNode (B : Nat) (w : World) (nb : Nat) : Prop := ∀ i, i ≤ 1 → ∀ A n c, w.cell? ⟨nb, i, none⟩ = some (.slice A n c) → ∀ ad, A = some ad → B ≤ ad.block
theorem newNode_of {B b1 b2 : Nat} {w : World} {Ak A9 : Option Addr} {m ck n c9 : Nat} {x2 x3 x4 x5 x6 : Value} {xs ys : List Value} {e : TypeId} (hk : w.ownsRow b1 e 1 (.slice Ak m ck) m xs) (hv : w.ownsRow b2 e 1 (.slice A9 n c9) n ys) (h1 : B ≤ b1) (h2 : B ≤ b2) :
    NewNode B (w.alloc (.cells #[.slice Ak m ck, .slice A9 n c9, x2, x3, x4, x5, x6] 121)) w.heap.size := fun i hi A k c hc ad e => by
  rw [(Blk.new w 121 _).cell i] at hc
  subst e
  rcases (by omega : i = 0 ∨ i = 1) with rfl | rfl
  · simp only [List.getElem?_toArray, List.getElem?_cons_zero, Option.some.injEq, Value.slice.injEq] at hc
    obtain ⟨rfl, _, _⟩ := hc
    exact Nat.le_trans h1 (World.ownsRow.lt hk _ rfl).1
  · simp only [List.getElem?_toArray, List.getElem?_cons_zero, List.getElem?_cons_succ, Option.some.injEq, Value.slice.injEq] at hc
    obtain ⟨rfl, _, _⟩ := hc
    exact Nat.le_trans h2 (World.ownsRow.lt hv _ rfl).1
theorem put_clean {Bad : Nat → Prop} {w wn w' : World} {t : AT} {seed : Int} {nb : Nat} {k v : List UInt8} (hb : ∀ x, Bad x → x < w.heap.size) (hc : Clean Bad w t) (hlt : ∀ b ∈ t.blocks, b < w.heap.size) (hk : Low w wn) (hn : NewNode w.heap.size wn nb) (hnb : nb < wn.heap.size) (hl : LowP nb wn w') : Clean Bad w' (t.put seed nb k v) := by
  intro b hbm i hi A n c hn0 hcell ad e hbad
  have hlow := hb _ hbad
  have hnew : ∀ j, j ≤ 1 → wn.cell? ⟨nb, j, none⟩ ≠ some (.slice A n c) := fun j hj h => by
    have := hn j hj A n c h ad e
    omega
  rcases put_mem hbm with rfl | hbt
  · rcases hl.2 _ i hnb hi with e1 | ⟨rfl, e1⟩
    · exact hnew i hi (e1.symm.trans hcell)
    · exact hnew 1 (Nat.le_refl _) (e1.symm.trans hcell)
  · rcases hl.2 b i (Nat.lt_of_lt_of_le (hlt b hbt) hk.1) hi with e1 | ⟨rfl, e1⟩
    · exact hc b hbt i hi A n c hn0 ((hk.2 b i (hlt b hbt) hi).symm.trans (e1.symm.trans hcell)) ad e hbad
    · exact hnew 1 (Nat.le_refl _) (e1.symm.trans hcell)

section
variable {P : Program} (w : World)
theorem step_append_any {ops : Array Oper} {o : Oper} {a : Act} {K : Act → World → Prop} {Q : Exit → Act → World → Prop} {E : Prop} (hgd : o.guard = none) (s x : Operand) (t : TypeId)
    (ho : o.op = .call { callee := .builtin .append, args := #[s, x], argTypes := #[t, t] })
    (base : Nat) (e : TypeId) (i : TypeInfo) (z : Value) (size bytes : Nat) (ht : P.underlying t = some (.slice e)) (hi : P.info? e = some i) (hz : i.zero = some z)
    (hsize : i.size = size) (hby : i.bytes = bytes) (hzs : z.cells.size = size) (hsz : 0 < size)
    (v : Value) (n : Nat) (xs : List Value) (hs : a.eval s = v) (hown : w.ownsRow base e size v n xs)
    (B : Nat) (A : Option Addr) (m c : Nat) (news : List Value) (hx : a.eval x = .slice A m c) (hr : Reads B w e size A m news) (h1 : ∀ u ∈ news, u.oneCell' = true)
    (h63 : n + m ≤ maxLen) (hbytes : (n + m) * bytes ≤ 140737488355328) (hbase : base ≤ w.heap.size)
    (h : ∀ v' w', w'.ownsRow base e size v' (n + m) (xs ++ news) → w.grownBy w' v.ownBlock → (v'.ownBlock = v.ownBlock ∨ v'.ownBlock = some w.heap.size) → K (a.put o.dst v') w') :
    if Region.wanted o (yielded ops a.tmps) = true then Oper.wp P o a w K Q else E := by
  have hw : Region.wanted o (yielded ops a.tmps) = true := by simp [Region.wanted, hgd]
  rw [if_pos hw]
  exact wp_append_any w s x t ho base e i z size bytes ht hi hz hsize hby hzs hsz v n xs hs hown B A m c news hx hr h1 h63 hbytes hbase h
end

theorem key_kept1 {W w1 : World} {b size n : Nat} {e : TypeId} {v : Value} {xs : List Value} {o : Obj} (h : W.ownsRow b e size v n xs) (hg : (W.alloc o).grownBy w1 (Value.slice (some ⟨W.heap.size, 0, none⟩) 0 0).ownBlock) : w1.ownsRow b e size v n xs :=
  World.ownsRow.kept (h.alloc o) hg (by
    cases hv : v.ownBlock with
    | none => exact .inl rfl
    | some k => have := (World.ownsRow.lt h k hv).2; refine .inr (fun e => ?_); simp [Value.ownBlock] at e; omega)
theorem key_kept2 {w W w1 : World} {size n : Nat} {e : TypeId} {v : Value} {xs : List Value} {o : Obj} (h : W.ownsRow (w.alloc o).drew.heap.size e size v n xs) (hg : W.grownBy w1 (Value.slice (some ⟨w.heap.size, 0, none⟩) 0 0).ownBlock) : w1.ownsRow (w.alloc o).drew.heap.size e size v n xs :=
  World.ownsRow.kept h hg (by
    cases hv : v.ownBlock with
    | none => exact .inl rfl
    | some k => have := (World.ownsRow.lt h k hv).1; refine .inr (fun e => ?_); simp [Value.ownBlock] at e; simp [World.drew] at this; omega)
theorem grown_keep {w W0 W1 : World} {nb : Nat} (hk : Keep No w W0) (hg : W0.grownBy W1 (Value.slice (some ⟨nb, 0, none⟩) 0 0).ownBlock) (hnb : w.heap.size ≤ nb) : Keep No w W1 :=
  hk.grown hg (fun k e => by simp [Value.ownBlock] at e; exact .inr (by omega))
theorem grown_cell {w W0 W1 : World} {nb mb i : Nat} {v : Value} (hg : W0.grownBy W1 (Value.slice (some ⟨nb, 0, none⟩) 0 0).ownBlock) (hnb : w.heap.size ≤ nb) (hmb : mb < w.heap.size) (hc : W0.cell? ⟨mb, i, none⟩ = some v) : W1.cell? ⟨mb, i, none⟩ = some v :=
  hg.cell hc (fun e => by simp [Value.ownBlock] at e; omega)

set_option maxHeartbeats 4000000 in
set_option maxRecDepth 100000 in
theorem Put_low {base : Nat} {w : World} {seed : Int} {mb : Nat} {t : AT} {A B : Option Addr} {n c m d : Nat} {key value : List UInt8} (h : MObj base w mb seed t) (hk : Bytes base w A n key) (hv : Bytes base w B m value)
    (hok : keyOk key value) (hsz : t.size < 100000) (hbase : base ≤ w.heap.size) :
    Calls Try.prog 43 #[.pointer (some ⟨mb, 0, none⟩), .slice A n c, .slice B m d] w fun e w' =>
      ∃ nb, w.heap.size ≤ nb ∧ e = .returned (.int .i64 0) ∧ MObj base w' mb seed (t.put seed nb key value) ∧ Keep (In (mb :: t.blocks)) w w' ∧
        ∀ Bad : Nat → Prop, (∀ x, Bad x → x < w.heap.size) → Clean Bad w t → Clean Bad w' (t.put seed nb key value) := by
  obtain ⟨i0, hi0, hz0, hz1, hz2⟩ := info_parts info_u8
  obtain rfl := hk.len
  obtain rfl := hv.len
  have HR := Lib.hid (real_any h.has)
  have HFD := Lib.hid (find_any (c := c) h.has h.rep hk)
  have HCN := Lib.hid (count_any h.rep)
  obtain ⟨m0, m1, m2⟩ := h.has.cells
  have hml := h.has.2.lt
  have HO := Lib.hid h
  have HK := Lib.hid hk
  have HV := Lib.hid hv
  have k1 : ¬ key.length < 1 := by have := hok.1; omega
  have k2 : ¬ 64 < key.length := by have := hok.2.1; omega
  have k3 : ¬ 1000 < value.length := by have := hok.2.2; omega
  have HOK := Lib.hid hok
  have hkr := Lib.hid (Keep.refl No w)
  clear h hk hv hok
  have hcz : decide ((100000 : Int) ≤ ((t.size : Nat) : Int)) = false := by simp; omega
  have hszz := Lib.hid hsz
  generalize ((t.size : Nat) : Int) = z at HCN hcz
  clear hsz
  generalize t.find key = q at HFD
  cases q
  case' nil =>
    go_enter Try.func43, Try.ntmps43
    go_wp2_with (first
      | (go_at_call 64; refine HR.out.mono ?_; rintro e w' ⟨rfl, rfl⟩)
      | (go_at_call 82; refine HFD.out.mono ?_; rintro e w' ⟨rfl, rfl, _⟩; rw [ptr_nil])
      | (go_at_call 68; refine HCN.out.mono ?_; rintro e w' ⟨rfl, rfl⟩))
  case' node =>
    go_enter Try.func43, Try.ntmps43
    go_wp2_with (first
      | (go_at_call 64; refine HR.out.mono ?_; rintro e w' ⟨rfl, rfl⟩)
      | (go_at_call 82; refine HFD.out.mono ?_; rintro e w' ⟨rfl, rfl, _⟩; rw [ptr_node]))
  all_goals
    go_region_held3 (fun w' => w'.cell? ⟨mb, 1, none⟩ = some (.int .u64 seed) ∧ Keep No w w')
      (first
        | exact ⟨m1, (Keep.refl No w).drew⟩
        | (go_split_ands; exact ⟨(hkd.cell (p := ⟨mb, 1, none⟩) (Nat.lt_of_lt_of_le hml (Keep.size (by assumption))) (fun x => x)).trans (by assumption), Keep.trans (by assumption) hkd (fun _ x => x.elim)⟩)
        | (go_split_ands; exact ⟨(World.cell?_alloc_lt _ _ _ (Nat.lt_of_lt_of_le hml (Keep.size (by assumption)))).trans (by assumption), Keep.alloc (by assumption) _⟩)
        | (go_split_ands; exact ⟨grown_cell hgrow (by first | exact hkd.size | exact Nat.le_refl _) hml (by assumption), grown_keep (by assumption) hgrow (by first | exact hkd.size | exact Nat.le_refl _)⟩)
        | go_keep)
      (first
        | (go_split_ands; (refine step_append_any _ (by rfl) _ _ _ (by rfl) w.heap.size 5 i0 _ 1 1 Try.underlying23 hi0 hz0 hz1 hz2 rfl (by omega) _ 0 [] (by rfl) (own_empty (by first | exact hkd.size | exact Nat.le_refl _)) base B _ _ (byteVs value) (by rfl) (HV.out.new_ (by assumption)) (byteVs_one _) (by simp only [maxLen]; omega) (by omega) (Keep.size (by assumption)) ?_); intro v1 w1 hown1 hgrow hat; rw [Nat.zero_add, List.nil_append] at hown1; obtain ⟨A9, c9, hv9, hc9⟩ := own_slice hown1; subst hv9; clear hat hc9)
        | (go_split_ands; (refine step_append_any _ (by rfl) _ _ _ (by rfl) w.heap.size 5 i0 _ 1 1 Try.underlying23 hi0 hz0 hz1 hz2 rfl (by omega) _ 0 [] (by rfl) (own_keep (own_empty (by first | exact hkd.size | exact Nat.le_refl _)) hkd.of_drew (fun _ _ x => x)) base B _ _ (byteVs value) (by rfl) (HV.out.new_ (by assumption)) (byteVs_one _) (by simp only [maxLen]; omega) (by omega) (Keep.size (by assumption)) ?_); intro v1 w1 hown1 hgrow hat; rw [Nat.zero_add, List.nil_append] at hown1; obtain ⟨A9, c9, hv9, hc9⟩ := own_slice hown1; subst hv9; clear hat hc9)
        | (go_at_call 62; go_split_ands; refine (bclone A _ c key _ (HK.out.new_ (by assumption)) (by omega)).mono ?_; rintro e w1 ⟨Ak, ck, rfl, hck, hownk, hkd⟩)
        | (go_at_call 83; go_split_ands; refine (coin_any seed 3 A _ c key _ (HK.out.new_ (by assumption)) (by omega)).mono ?_; rintro e w1 ⟨rfl, rfl⟩))
    all_goals
      have kw : Keep No w w1 := by assumption
      have bk : Bytes base w1 Ak key.length key := by first | exact Bytes.of_own (key_kept1 hownk hgrow) | exact Bytes.of_own (key_kept2 hownk hgrow)
      have bv : Bytes base w1 A9 value.length value := Bytes.of_own hown1
      have hN : Node base (w1.alloc (.cells #[.slice Ak key.length ck, .slice A9 value.length c9, .int .u64 (coin seed 3 key), .pointer none, .pointer none, .int .i64 0, .int .u64 0] 121)) seed w1.heap.size key value none none 0 0 :=
        ⟨Nat.le_trans hbase kw.size, HOK.out, Ak, ck, A9, c9, Blk.new _ _ _, bk.alloc _, bv.alloc _⟩
      have HNN := Lib.hid (show NewNode w.heap.size (w1.alloc (.cells #[.slice Ak key.length ck, .slice A9 value.length c9, .int .u64 (coin seed 3 key), .pointer none, .pointer none, .int .i64 0, .int .u64 0] 121)) w1.heap.size from by
        first
          | exact newNode_of (key_kept1 hownk hgrow) hown1 (Keep.size (by assumption)) (Nat.le_refl _)
          | exact newNode_of (key_kept2 hownk hgrow) hown1 (by simp [World.drew]) (Nat.le_refl _))
      have kw2 := kw.alloc (.cells #[.slice Ak key.length ck, .slice A9 value.length c9, .int .u64 (coin seed 3 key), .pointer none, .pointer none, .int .i64 0, .int .u64 0] 121)
      have hO := HO.out.new_ kw2
      have hnb : w1.heap.size ∉ t.blocks := fun h => by have := HO.out.rep.lt h; have := kw.size; omega
      have hnbw := kw.size
      have HP := Lib.hid (put_low t _ hO.has hO.rep hO.nodup hN hnb (by have := hszz.out; omega))
      have H2 := Lib.hid (show _ ∧ _ ∧ _ from ⟨hO, hN, kw2⟩)
      have q2 := hO.has.cells.2.2
      generalize w1.heap.size = nb at *
      generalize w1.alloc (.cells #[.slice Ak key.length ck, .slice A9 value.length c9, .int .u64 (coin seed 3 key), .pointer none, .pointer none, .int .i64 0, .int .u64 0] 121) = wn at *
      clear hownk hkd hgrow hown1 kw bk bv hN kw2 hO HR HFD HCN HK HV m0 m1 m2
      go_wp2_with fail
      refine HP.out.mono ?_
      rintro e w3 ⟨rfl, hr3, hk3, hl3⟩
      have HL3 := Lib.hid hl3
      clear hl3
      have hmt : ∀ x, In (nb :: t.blocks) x → Mut base wn x := fun x hx => (List.mem_cons.1 hx).elim (fun e => e ▸ H2.out.2.1.mut) (fun h => H2.out.1.rep.mut x h)
      have M3 := H2.out.1.has.keep hk3 (fun h => (List.mem_cons.1 h).elim (H2.out.1.has.ne_node H2.out.2.1) (H2.out.1.has.ne H2.out.1.rep))
      have f2 := M3.2.frozen 2
      have g2 := M3.cells.2.2
      have H3 := Lib.hid (show _ ∧ _ ∧ _ from ⟨M3, hr3, hk3⟩)
      clear HP M3 hr3 hk3 hmt q2
      go_wp2
      go_ret
      obtain ⟨M3, hr3, hk3⟩ := H3.out
      have S4 : Keep (Only mb) w3 (w3.setCell ⟨mb, 2, none⟩ (.pointer (t.put seed nb key value).ptr)) := (Keep.refl (Only mb) w3).setCell (p := ⟨mb, 2, none⟩) (.inl rfl) _
      refine ⟨nb, hnbw, rfl, ⟨⟨M3.1, M3.2.set_ 2 _⟩, hr3.keep S4 (fun x e => e ▸ M3.mut) (fun x hx e => ?_), put_nodup H2.out.1.nodup hnb⟩, ?_, fun Bad hb hc => put_clean hb hc (fun b hx => HO.out.rep.lt hx) (Low.no H2.out.2.2) HNN.out H2.out.2.1.lt (HL3.out.trans ((Low.refl w3).set mb 2 (by omega) _))⟩
      · subst e
        exact M3.ne hr3 hx
      · exact ((H2.out.2.2.mono (S' := In (mb :: t.blocks)) (fun _ x => x.elim)).trans hk3 (fun x e => (List.mem_cons.1 e).elim (fun e => .inr (e ▸ hnbw)) (fun h => .inl (List.mem_cons_of_mem _ h)))).trans S4 (fun x e => .inl (e ▸ List.mem_cons_self))

theorem Put_ok {base : Nat} {w : World} {seed : Int} {mb : Nat} {t : AT} {A B : Option Addr} {n c m d : Nat} {key value : List UInt8} (h : MObj base w mb seed t) (hk : Bytes base w A n key) (hv : Bytes base w B m value)
    (hok : keyOk key value) (hsz : t.size < 100000) (hbase : base ≤ w.heap.size) :
    Calls Try.prog 43 #[.pointer (some ⟨mb, 0, none⟩), .slice A n c, .slice B m d] w fun e w' =>
      ∃ nb, w.heap.size ≤ nb ∧ e = .returned (.int .i64 0) ∧ MObj base w' mb seed (t.put seed nb key value) ∧ Keep (In (mb :: t.blocks)) w w' :=
  (Put_low h hk hv hok hsz hbase).mono fun _ _ ⟨nb, h1, h2, h3, h4, _⟩ => ⟨nb, h1, h2, h3, h4⟩
end Go.Proofs.Ytdmckjojeddaaaa
