/- Contracts of order's New, real, side, find, drop. Conditions: each names its own. -/
import Derived.Test.YtdmckjojeddaaaaT5
import Derived.Deep.LoopGhost
namespace Go.Proofs.Ytdmckjojeddaaaa
open Go.RowKit Go.Proofs.YtdmckjojeddaaaaKit Go.Proofs.YtdmckjojeddaaaaPlain

set_option maxHeartbeats 400000 in
theorem new_any (seed : Int) (w : World) : Calls Try.prog 20 #[.int .u64 seed] w fun e w' =>
    e = .returned (.pointer (some ⟨w.heap.size, 0, none⟩)) ∧ w' = w.alloc (.cells #[.bool true, .int .u64 seed, .pointer none] 106) := by
  go_enter Try.func20, Try.ntmps20
  go_wp2
  go_ret
  exact ⟨rfl, rfl⟩

section
variable {base : Nat} {w : World} {seed : Int} {mb : Nat} {root : Option Addr}
set_option maxHeartbeats 400000 in
theorem real_any (h : MapHas base w mb seed root) : Calls Try.prog 64 #[.pointer (some ⟨mb, 0, none⟩)] w fun e w' => e = .returned (.bool true) ∧ w = w' := by
  obtain ⟨m0, _, _⟩ := h.cells
  clear h
  go_enter Try.func64, Try.ntmps64
  go_wp2
  go_ret
  exact ⟨rfl, rfl⟩
set_option maxHeartbeats 400000 in
theorem real_nil : Calls Try.prog 64 #[.pointer none] w fun e w' => e = .returned (.bool false) ∧ w = w' := by
  go_enter Try.func64, Try.ntmps64
  go_wp2
  go_ret
  exact ⟨rfl, rfl⟩
set_option maxHeartbeats 400000 in
theorem real_zero (h : w.cell? ⟨mb, 0, none⟩ = some (.bool false)) : Calls Try.prog 64 #[.pointer (some ⟨mb, 0, none⟩)] w fun e w' => e = .returned (.bool false) ∧ w = w' := by
  go_enter Try.func64, Try.ntmps64
  go_wp2
  go_ret
  exact ⟨rfl, rfl⟩
set_option maxHeartbeats 400000 in
theorem side_any {b : Nat} {k v : List UInt8} {lp rp : Option Addr} {sz dg c : Int} (h : Node base w seed b k v lp rp sz dg) :
    Calls Try.prog 71 #[.pointer (some ⟨b, 0, none⟩), .int .i64 c] w fun e w' => e = .returned (.pointer (if c < 0 then lp else rp)) ∧ w = w' := by
  obtain ⟨_, _, _, _, _, _, _, _, _, c3, c4, _⟩ := h.cells
  clear h
  by_cases hc : c < 0
  · rw [if_pos hc]
    go_enter Try.func71, Try.ntmps71
    go_wp2
    go_ret
    exact ⟨rfl, rfl⟩
  · rw [if_neg hc]
    go_enter Try.func71, Try.ntmps71
    go_wp2
    go_ret
    exact ⟨rfl, rfl⟩
end

def AT.find (key : List UInt8) : AT → AT
  | .nil => .nil
  | .node b k v l r => if key = k then .node b k v l r else if Lt key k then find key l else find key r

set_option maxHeartbeats 1000000 in
set_option maxRecDepth 100000 in
theorem find_any {base : Nat} {w : World} {seed : Int} {mb : Nat} {t : AT} {A : Option Addr} {n c : Nat} {key : List UInt8} (hm : MapHas base w mb seed t.ptr) (ht : Rep base w seed t) (hk : Bytes base w A n key) :
    Calls Try.prog 82 #[.pointer (some ⟨mb, 0, none⟩), .slice A n c] w fun e w' => e = .returned (.pointer (t.find key).ptr) ∧ w = w' ∧ Rep base w seed (t.find key) := by
  obtain ⟨_, _, m2⟩ := hm.cells
  have HR := Lib.hid (real_any hm)
  have HK := Lib.hid hk
  have HT := Lib.hid ht
  clear hm hk ht
  go_enter Try.func82, Try.ntmps82
  go_wp2_with (go_at_call 64; refine HR.out.mono ?_; rintro e w' ⟨rfl, rfl⟩)
  go_loopg [5] t.size (fun m v5 wr => ∃ s : AT, v5 = .pointer s.ptr ∧ Hid (s.size = m) ∧ Hid (s.find key = t.find key) ∧ Hid (Rep base w seed s) ∧ Hid (w = wr))
  case atStart => exact ⟨t, rfl, Lib.hid rfl, Lib.hid rfl, HT, Lib.hid rfl⟩
  case round =>
    obtain ⟨s, rfl, hg, hs, hr, hwr⟩ := hrel
    obtain rfl := hwr.out
    cases s with
    | nil =>
      rw [ptr_nil]
      go_wp2
      go_ret
      rw [← hs.out]
      exact ⟨rfl, rfl, trivial⟩
    | node b k v l r =>
      rw [ptr_node]
      obtain ⟨A1, c1, _, _, hA, _, e0, _⟩ := hr.out.root.cells
      have hcmp := bcompare A A1 _ c _ c1 key k w HK.out hA
      have hsd := fun c : Int => side_any (c := c) hr.out.root
      have HSd := Lib.hid hsd
      clear hsd hA
      by_cases hkk : key = k
      · rw [cb_eq.2 hkk] at hcmp
        have e9 : (AT.node b k v l r).find key = .node b k v l r := by rw [AT.find, if_pos hkk]
        have hs2 := Lib.hid (e9.symm.trans hs.out)
        have HC := Lib.hid hcmp
        clear hcmp e9 hs hkk
        go_wp2_with (go_at_call 61; refine HC.out.mono ?_; rintro e w' ⟨rfl, rfl⟩)
        go_ret
        rw [← hs2.out]
        exact ⟨rfl, rfl, hr.out⟩
      · by_cases hlt : Lt key k
        · rw [cb_lt hlt] at hcmp
          have e9 : (AT.node b k v l r).find key = l.find key := by rw [AT.find, if_neg hkk, if_pos hlt]
          have hs2 := Lib.hid (e9.symm.trans hs.out)
          have HC := Lib.hid hcmp
          have hlt2 : l.size < gk := by have := hg.out; simp only [AT.size] at this; omega
          clear hcmp e9 hs hkk hlt
          go_wp2_with (first | (go_at_call 61; refine HC.out.mono ?_; rintro e w' ⟨rfl, rfl⟩) | (go_at_call 71; refine (HSd.out (-1)).mono ?_; rintro e w' ⟨rfl, rfl⟩; rw [if_pos (by omega)]))
          go_roundg l.size
          case measure => omega
          case rel => exact ⟨l, rfl, Lib.hid rfl, hs2, Lib.hid hr.out.2.1, Lib.hid rfl⟩
        · have hgt := (not_lt.1 hlt).resolve_left hkk
          rw [cb_gt hgt] at hcmp
          have e9 : (AT.node b k v l r).find key = r.find key := by rw [AT.find, if_neg hkk, if_neg hlt]
          have hs2 := Lib.hid (e9.symm.trans hs.out)
          have HC := Lib.hid hcmp
          have hlt2 : r.size < gk := by have := hg.out; simp only [AT.size] at this; omega
          clear hcmp e9 hs hkk hlt hgt
          go_wp2_with (first | (go_at_call 61; refine HC.out.mono ?_; rintro e w' ⟨rfl, rfl⟩) | (go_at_call 71; refine (HSd.out 1).mono ?_; rintro e w' ⟨rfl, rfl⟩; rw [if_neg (by omega)]))
          go_roundg r.size
          case measure => omega
          case rel => exact ⟨r, rfl, Lib.hid rfl, hs2, Lib.hid hr.out.2.2, Lib.hid rfl⟩

def AT.drop (seed : Int) (key : List UInt8) : AT → AT
  | .nil => .nil
  | .node b k v l r => if key = k then AT.merge seed l r else if Lt key k then .node b k v (drop seed key l) r else .node b k v l (drop seed key r)
theorem drop_mem {seed : Int} {key : List UInt8} {t : AT} {x : Nat} (h : x ∈ (t.drop seed key).blocks) : x ∈ t.blocks := by
  induction t with
  | nil => exact h
  | node b k v l r ihl ihr =>
    rw [AT.drop] at h
    split at h
    · have := ((merge_perm seed _ l r (Nat.le_refl _)).1.mem_iff).1 h
      simp only [AT.blocks]; exact List.mem_cons_of_mem _ this
    · split at h
      · simp only [AT.blocks, List.mem_cons, List.mem_append] at h ⊢
        rcases h with h | h | h
        · exact .inl h
        · exact .inr (.inl (ihl h))
        · exact .inr (.inr h)
      · simp only [AT.blocks, List.mem_cons, List.mem_append] at h ⊢
        rcases h with h | h | h
        · exact .inl h
        · exact .inr (.inl h)
        · exact .inr (.inr (ihr h))
theorem drop_nodup {seed : Int} {key : List UInt8} {t : AT} (h : t.blocks.Nodup) : (t.drop seed key).blocks.Nodup := by
  induction t with
  | nil => exact h
  | node b k v l r ihl ihr =>
    obtain ⟨n1, n2, n3, n4, n5⟩ := nodup_node h
    rw [AT.drop]
    split
    · exact ((merge_perm seed _ l r (Nat.le_refl _)).1.nodup_iff).2 (by simp only [AT.blocks, List.nodup_cons] at h; exact h.2)
    · split
      · simp only [AT.blocks, List.nodup_cons, List.mem_append, not_or, List.nodup_append]
        exact ⟨⟨fun h => n1 (drop_mem h), n2⟩, ihl n3, n4, fun x hx y hy e => n5 x (drop_mem hx) (e ▸ hy)⟩
      · simp only [AT.blocks, List.nodup_cons, List.mem_append, not_or, List.nodup_append]
        exact ⟨⟨n1, fun h => n2 (drop_mem h)⟩, n3, ihr n4, fun x hx y hy e => n5 x hx (drop_mem (e ▸ hy))⟩
theorem drop_size (seed : Int) (key : List UInt8) (t : AT) : (t.drop seed key).size ≤ t.size := by
  induction t with
  | nil => exact Nat.le_refl _
  | node b k v l r ihl ihr =>
    rw [AT.drop]
    split
    · have := (merge_perm seed _ l r (Nat.le_refl _)).2; simp only [AT.size]; omega
    · split <;> simp only [AT.size] <;> omega

end Go.Proofs.Ytdmckjojeddaaaa
