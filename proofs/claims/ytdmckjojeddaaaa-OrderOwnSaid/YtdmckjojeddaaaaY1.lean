/- Contracts of order's part and SpanDigest: the digest of a span's pairs alone. Conditions: each names its own. -/
import Derived.Test.YtdmckjojeddaaaaP6
import Derived.Test.YtdmckjojeddaaaaU3
import Derived.Deep.RegionHeld3
namespace Go.Proofs.Ytdmckjojeddaaaa
open Go.RowKit Go.Proofs.YtdmckjojeddaaaaKit Go.Proofs.YtdmckjojeddaaaaPlain

/-! ### The tree of a span -/
def belowLo (lo : Option (List UInt8)) (k : List UInt8) : Bool := match lo with
  | none => false
  | some f => decide (Lt k f)
def beyondHi (hi : Option (List UInt8)) (k : List UInt8) : Bool := match hi with
  | none => false
  | some t => !decide (Lt k t)
def inSpan (lo hi : Option (List UInt8)) (p : List UInt8 × List UInt8) : Bool := !belowLo lo p.1 && !beyondHi hi p.1
def AT.cut : Option (List UInt8) → Option (List UInt8) → AT → AT
  | _, _, .nil => .nil
  | lo, hi, .node b k v l r => if lo.isNone && hi.isNone then .node b k v l r else if belowLo lo k then AT.cut lo hi r else if beyondHi hi k then AT.cut lo hi l else .node b k v (AT.cut lo none l) (AT.cut none hi r)
theorem cut_none (t : AT) : AT.cut none none t = t := by cases t <;> rfl
theorem filter_none (l : PairL) : l.filter (inSpan none none) = l := by rw [List.filter_eq_self]; intro p _; rfl
theorem below_lt {lo : Option (List UInt8)} {k k2 : List UInt8} (h : belowLo lo k = true) (hl : Lt k2 k) : belowLo lo k2 = true := by
  cases lo with
  | none => cases h
  | some f => exact decide_eq_true (lt_trans hl (of_decide_eq_true h))
theorem below_gt {lo : Option (List UInt8)} {k k2 : List UInt8} (h : belowLo lo k = false) (hl : Lt k k2) : belowLo lo k2 = false := by
  cases hh : belowLo lo k2 with
  | false => rfl
  | true => rw [below_lt hh hl] at h; cases h
theorem beyond_gt {hi : Option (List UInt8)} {k k2 : List UInt8} (h : beyondHi hi k = true) (hl : Lt k k2) : beyondHi hi k2 = true := by
  cases hi with
  | none => cases h
  | some f =>
    simp only [beyondHi, Bool.not_eq_true'] at h ⊢
    have := of_decide_eq_false h
    exact decide_eq_false (fun h2 => this (lt_trans hl h2))
theorem beyond_lt {hi : Option (List UInt8)} {k k2 : List UInt8} (h : beyondHi hi k = false) (hl : Lt k2 k) : beyondHi hi k2 = false := by
  cases hh : beyondHi hi k2 with
  | false => rfl
  | true => rw [beyond_gt hh hl] at h; cases h
theorem filter_nil {l : PairL} {f : List UInt8 × List UInt8 → Bool} (h : ∀ p ∈ l, f p = false) : l.filter f = [] := List.filter_eq_nil_iff.2 (fun p hp => by rw [h p hp]; simp)
theorem filter_ext {l : PairL} {f g : List UInt8 × List UInt8 → Bool} (h : ∀ p ∈ l, f p = g p) : l.filter f = l.filter g := List.filter_congr h
theorem cut_list {t : AT} (hs : Sorted t.toList) : ∀ lo hi, (AT.cut lo hi t).toList = t.toList.filter (inSpan lo hi) := by
  induction t with
  | nil => intro lo hi; rfl
  | node b k v l r ihl ihr =>
    intro lo hi
    obtain ⟨s1, s2, s3, s4, s5⟩ := sorted_node hs
    rw [AT.cut]
    split
    · rename_i h
      simp only [Bool.and_eq_true, Option.isNone_iff_eq_none] at h
      obtain ⟨rfl, rfl⟩ := h
      rw [filter_none]
    · rw [AT.toList, List.filter_append, List.filter_cons]
      split
      · rename_i hb
        rw [ihr s2, filter_nil (l := l.toList) (fun p hp => by simp [inSpan, below_lt hb (s3 p hp)]), if_neg (by simp [inSpan, hb])]
        rfl
      · rename_i hb
        have hb := by simpa using hb
        split
        · rename_i hh
          rw [ihl s1, filter_nil (l := r.toList) (fun p hp => by simp [inSpan, beyond_gt hh (s4 p hp)]), if_neg (by simp [inSpan, hh])]
          simp
        · rename_i hh
          have hh := by simpa using hh
          rw [if_pos (by simp [inSpan, hb, hh]), AT.toList, ihl s1, ihr s2,
            filter_ext (l := l.toList) (f := inSpan lo none) (g := inSpan lo hi) (fun p hp => by show (!belowLo lo p.1 && !false) = (!belowLo lo p.1 && !beyondHi hi p.1); rw [beyond_lt hh (s3 p hp)]),
            filter_ext (l := r.toList) (f := inSpan none hi) (g := inSpan lo hi) (fun p hp => by show (!false && !beyondHi hi p.1) = (!belowLo lo p.1 && !beyondHi hi p.1); rw [below_gt hb (s4 p hp)])]
theorem cut_mem {t : AT} {p : List UInt8 × List UInt8} : ∀ lo hi, p ∈ (AT.cut lo hi t).toList → p ∈ t.toList := by
  induction t with
  | nil => intro lo hi h; exact h
  | node b k v l r ihl ihr =>
    intro lo hi h
    rw [AT.cut] at h
    split at h
    · exact h
    · split at h
      · have := ihr _ _ h
        simp [AT.toList, this]
      · split at h
        · have := ihl _ _ h
          simp [AT.toList, this]
        · simp only [AT.toList, List.mem_append, List.mem_cons] at h ⊢
          rcases h with h | h | h
          · exact .inl (ihl _ _ h)
          · exact .inr (.inl h)
          · exact .inr (.inr (ihr _ _ h))
theorem cut_heap {seed : Int} {t : AT} (hh : Heap seed t) : ∀ lo hi, Heap seed (AT.cut lo hi t) := by
  induction t with
  | nil => intro lo hi; trivial
  | node b k v l r ihl ihr =>
    intro lo hi
    obtain ⟨h1, h2, h3, h4⟩ := hh
    rw [AT.cut]
    split
    · exact ⟨h1, h2, h3, h4⟩
    · split
      · exact ihr h4 _ _
      · split
        · exact ihl h3 _ _
        · exact ⟨fun p hp => h1 p (cut_mem _ _ hp), fun p hp => h2 p (cut_mem _ _ hp), ihl h3 _ _, ihr h4 _ _⟩
theorem cut_wf {seed : Int} {t : AT} (h : WF seed t) (lo hi : Option (List UInt8)) : WF seed (AT.cut lo hi t) := ⟨by rw [cut_list h.sorted]; exact List.Pairwise.sublist List.filter_sublist h.sorted, cut_heap h.heap lo hi⟩
theorem cut_size (t : AT) : ∀ lo hi, (AT.cut lo hi t).size ≤ t.size := by
  induction t with
  | nil => intro lo hi; exact Nat.le_refl _
  | node b k v l r ihl ihr =>
    intro lo hi
    have hl1 := ihl lo hi; have hl2 := ihl lo none; have hr1 := ihr lo hi; have hr2 := ihr none hi
    rw [AT.cut]
    split
    · exact Nat.le_refl _
    · split
      · simp only [AT.size]; omega
      · split <;> simp only [AT.size] <;> omega

/-! ### part -/
theorem wrap_i64_fit {x : Int} (h0 : -9223372036854775808 ≤ x) (h1 : x ≤ 9223372036854775807) : IntKind.i64.wrap x = x := IntWalk.i64_in x ⟨h0, h1⟩
def PartRet (seed : Int) (w : World) (t : AT) (e : Ending) (w' : World) : Prop := e = .returned (.tuple #[.int .i64 (t.size : Nat), .int .u64 (t.sum seed)]) ∧ Keep No w w'
theorem ret_pair {a b c d : Int} (h : a = b) (k : c = d) : Ending.returned (.tuple #[.int .i64 a, .int .u64 c]) = .returned (.tuple #[.int .i64 b, .int .u64 d]) := by rw [h, k]

set_option maxHeartbeats 4000000 in
set_option maxRecDepth 100000 in
theorem part_any {base : Nat} {seed : Int} {mb : Nat} {root : Option Addr} (t : AT) : ∀ (w : World) (A B : Option Addr) (n c m d : Nat) (lo hi : Option (List UInt8)), MapHas base w mb seed root → Rep base w seed t → (∀ f, lo = some f → Bytes base w A n f) → (∀ f, hi = some f → Bytes base w B m f) → t.size < 1000000000 →
    Calls Try.prog 78 #[.pointer (some ⟨mb, 0, none⟩), .pointer t.ptr, .slice A n c, .bool lo.isSome, .slice B m d, .bool hi.isSome] w (PartRet seed w (AT.cut lo hi t)) := by
  induction t with
  | nil =>
    intro w A B n c m d lo hi hm ht hlo hhi hsz
    have HC := Lib.hid (count_any (seed := seed) (t := .nil) (base := base) (w := w) trivial)
    have HS := Lib.hid (sum_any (seed := seed) (t := .nil) (base := base) (w := w) trivial)
    rw [ptr_nil] at HC HS ⊢
    have e0 : AT.cut lo hi .nil = .nil := by cases lo <;> cases hi <;> rfl
    rw [e0]
    clear hm ht hlo hhi e0
    go_enter Try.func78, Try.ntmps78
    go_wp2_with (first
      | (go_at_call 68; refine HC.out.mono ?_; rintro e w' ⟨rfl, rfl⟩)
      | (go_at_call 70; refine HS.out.mono ?_; rintro e w' ⟨rfl, rfl⟩))
    go_ret2
    exact ⟨rfl, Keep.refl _ _⟩
  | node b k v l r ihl ihr =>
    intro w A B n c m d lo hi hm ht hlo hhi hsz
    have hN := ht.root
    obtain ⟨A1, c1, B1, d1, hA, hB, e0, e1, e2, e3, e4, e5, e6⟩ := hN.cells
    obtain ⟨_, s1, _⟩ := hm.cells
    have hbs := hN.lt
    have hms := hm.2.lt
    have hkv := hN.2.1
    have hk64 := hkv.2.1
    have hv1000 := hkv.2.2
    have hsz3 : l.size + r.size < 999999999 := by simp only [AT.size] at hsz; omega
    rw [ptr_node]
    cases lo with
    | none =>
      cases hi with
      | none =>
        have HC := Lib.hid (count_any ht)
        have HS := Lib.hid (sum_any ht)
        rw [ptr_node] at HC HS
        rw [cut_none]
        unfold PartRet
        clear hm ht hA hB hN hkv ihl ihr hlo hhi e0 e1 e2 e3 e4 e5 e6
        generalize (AT.node b k v l r).size = sz at *
        generalize (AT.node b k v l r).sum seed = sm at *
        go_enter Try.func78, Try.ntmps78
        go_wp2_with (first
          | (go_at_call 68; refine HC.out.mono ?_; rintro e w' ⟨rfl, rfl⟩)
          | (go_at_call 70; refine HS.out.mono ?_; rintro e w' ⟨rfl, rfl⟩))
        go_ret2
        exact ⟨rfl, Keep.refl _ _⟩
      | some h2 =>
        have hhb := hhi h2 rfl
        have HC2 := Lib.hid (bcompare A1 B _ c1 m d k h2 w hA hhb)
        by_cases hb2 : Lt k h2
        · have z2 : Lib.compareBytes k h2 < 0 := hb2
          have hcut : AT.cut none (some h2) (.node b k v l r) = .node b k v (AT.cut none none l) (AT.cut none (some h2) r) := by rw [AT.cut, if_neg (by simp), if_neg (by simp [belowLo]), if_neg (by simp [beyondHi, hb2])]
          rw [hcut]
          have HI1 := Lib.hid (ihl w A none n c 0 0 none none hm ht.2.1 hlo (fun _ e => by cases e) (by omega))
          have HI2 := Lib.hid (fun W (h : Keep No w W) => ihr W none B 0 0 m d none (some h2) (hm.keep h (fun x => x)) (ht.2.2.new_ h) (fun _ e => by cases e) (fun f e => (hhi f e).new_ h) (by omega))
          have HM := Lib.hid (fun W (h : Keep No w W) => (show _ ∧ _ ∧ _ ∧ _ from ⟨(h.cell (p := ⟨b, 0, none⟩) hbs (fun x => x)).trans e0, (h.cell (p := ⟨b, 1, none⟩) hbs (fun x => x)).trans e1, (h.cell (p := ⟨mb, 1, none⟩) hms (fun x => x)).trans s1, (h.cell (p := ⟨b, 4, none⟩) hbs (fun x => x)).trans e4⟩))
          have HAB := Lib.hid (show _ ∧ _ from ⟨hA, hB⟩)
          have hs1 := cut_size l none none
          have hs2 := cut_size r none (some h2)
          have hn1 := AT.sum_nonneg seed (AT.cut none none l)
          have hn2 := AT.sum_nonneg seed (AT.cut none (some h2) r)
          generalize Lib.compareBytes k h2 = y2 at *
          generalize AT.cut none none l = q1 at *
          generalize AT.cut none (some h2) r = q2 at *
          have HE := Lib.hid (show (AT.node b k v q1 q2).size = q1.size + 1 + q2.size ∧ (AT.node b k v q1 q2).sum seed = mark seed (q1.sum seed) k v (q2.sum seed) from ⟨by simp only [AT.size]; omega, rfl⟩)
          generalize (AT.node b k v q1 q2) = q3 at *
          have hw1 : IntKind.i64.wrap ((q1.size : Int) + 1) = (q1.size : Int) + 1 := wrap_i64_fit (by omega) (by omega)
          have hw2 : IntKind.i64.wrap ((q1.size : Int) + 1 + (q2.size : Int)) = (q1.size : Int) + 1 + (q2.size : Int) := wrap_i64_fit (by omega) (by omega)
          clear hm ht hA hB hN hkv ihl ihr hlo hhi e1 e2 e4 e5 e6 s1 hcut
          go_enter Try.func78, Try.ntmps78
          go_wp2_with ((go_at_call 61; refine HC2.out.mono ?_; rintro e w' ⟨rfl, rfl⟩; clear HC2))
          refine HI1.out.mono ?_
          rintro e w3 ⟨rfl, hk3⟩
          have K3 := Lib.hid hk3
          have g4 := (HM.out _ hk3).2.2.2
          clear hk3 HI1
          go_wp2_with fail
          refine (HI2.out _ K3.out).mono ?_
          rintro e w4 ⟨rfl, hk4⟩
          have K4 := Lib.hid (K3.out.trans hk4 (fun _ x => x.elim))
          have K5 := Lib.hid K4.out.drew
          clear hk4 HI2 g4 K3
          go_wp2_with fail
          go_region_held3 (fun w' => w'.cell? ⟨b, 0, none⟩ = some (.slice A1 k.length c1) ∧ w'.cell? ⟨b, 1, none⟩ = some (.slice B1 v.length d1) ∧ w'.cell? ⟨mb, 1, none⟩ = some (.int .u64 seed) ∧ Keep No w w')
            (first
              | with_reducible exact ⟨(HM.out _ K6.out).1, (HM.out _ K6.out).2.1, (HM.out _ K6.out).2.2.1, K6.out⟩
              | with_reducible exact ⟨(HM.out _ K5.out).1, (HM.out _ K5.out).2.1, (HM.out _ K5.out).2.2.1, K5.out⟩
              | fail)
            (first
              | (go_at_call 60; refine (digestOf_any seed _ _ A1 B1 _ c1 _ d1 k v _ (HAB.out.1.new_ K5.out) (HAB.out.2.new_ K5.out) (by omega) (by omega) hn1 hn2).mono ?_; rintro e w6 ⟨rfl, hk6⟩; have K6 := Lib.hid (K5.out.trans hk6 (fun _ x => x.elim)); clear hk6)
              | fail)
          go_wp2
          go_ret2
          exact ⟨ret_pair (by rw [HE.out.1]; push_cast; first | rfl | omega) HE.out.2.symm, K6.out⟩
        · have z2 : ¬ Lib.compareBytes k h2 < 0 := hb2
          have hcut : AT.cut none (some h2) (.node b k v l r) = AT.cut none (some h2) l := by rw [AT.cut, if_neg (by simp), if_neg (by simp [belowLo]), if_pos (by simp [beyondHi, hb2])]
          rw [hcut]
          have HI := Lib.hid (ihl w A B n c m d none (some h2) hm ht.2.1 hlo hhi (by omega))
          generalize Lib.compareBytes k h2 = y2 at *
          generalize AT.cut none (some h2) l = q at *
          clear hm ht hA hB hN hkv ihl ihr hlo hhi e1 e2 e4 e5 e6 s1 hcut
          go_enter Try.func78, Try.ntmps78
          go_wp2_with ((go_at_call 61; refine HC2.out.mono ?_; rintro e w' ⟨rfl, rfl⟩; clear HC2))
          refine HI.out.mono ?_
          rintro e w3 ⟨rfl, hk3⟩
          have K3 := Lib.hid hk3
          clear hk3 HI
          go_wp2
          go_ret2
          exact ⟨rfl, K3.out⟩
    | some f =>
      have hlb := hlo f rfl
      have HC1 := Lib.hid (bcompare A1 A _ c1 n c k f w hA hlb)
      by_cases hb1 : Lt k f
      · have z1 : Lib.compareBytes k f < 0 := hb1
        have hcut : AT.cut (some f) hi (.node b k v l r) = AT.cut (some f) hi r := by rw [AT.cut, if_neg (by simp), if_pos (by simp [belowLo, hb1])]
        rw [hcut]
        have HI := Lib.hid (ihr w A B n c m d (some f) hi hm ht.2.2 hlo hhi (by omega))
        generalize hbi : hi.isSome = hib at *
        generalize AT.cut (some f) hi r = q at *
        generalize Lib.compareBytes k f = y1 at *
        clear hm ht hA hB hN hkv ihl ihr hlo hhi hlb e1 e2 e3 e5 e6 s1 hb1 hcut hbi
        go_enter Try.func78, Try.ntmps78
        go_wp2_with (go_at_call 61; refine HC1.out.mono ?_; rintro e w' ⟨rfl, rfl⟩)
        refine HI.out.mono ?_
        rintro e w3 ⟨rfl, hk3⟩
        have K3 := Lib.hid hk3
        clear hk3 HI HC1
        go_wp2
        go_ret2
        exact ⟨rfl, K3.out⟩
      · have z1 : ¬ Lib.compareBytes k f < 0 := hb1
        cases hi with
        | none =>
          have hcut : AT.cut (some f) none (.node b k v l r) = .node b k v (AT.cut (some f) none l) (AT.cut none none r) := by rw [AT.cut, if_neg (by simp), if_neg (by simp [belowLo, hb1]), if_neg (by simp [beyondHi])]
          rw [hcut]
          have HI1 := Lib.hid (ihl w A none n c 0 0 (some f) none hm ht.2.1 hlo (fun _ e => by cases e) (by omega))
          have HI2 := Lib.hid (fun W (h : Keep No w W) => ihr W none B 0 0 m d none none (hm.keep h (fun x => x)) (ht.2.2.new_ h) (fun _ e => by cases e) (fun f e => (hhi f e).new_ h) (by omega))
          have HM := Lib.hid (fun W (h : Keep No w W) => (show _ ∧ _ ∧ _ ∧ _ from ⟨(h.cell (p := ⟨b, 0, none⟩) hbs (fun x => x)).trans e0, (h.cell (p := ⟨b, 1, none⟩) hbs (fun x => x)).trans e1, (h.cell (p := ⟨mb, 1, none⟩) hms (fun x => x)).trans s1, (h.cell (p := ⟨b, 4, none⟩) hbs (fun x => x)).trans e4⟩))
          have HAB := Lib.hid (show _ ∧ _ from ⟨hA, hB⟩)
          have hs1 := cut_size l (some f) none
          have hs2 := cut_size r none none
          have hn1 := AT.sum_nonneg seed (AT.cut (some f) none l)
          have hn2 := AT.sum_nonneg seed (AT.cut none none r)
          generalize Lib.compareBytes k f = y1 at *
          generalize AT.cut (some f) none l = q1 at *
          generalize AT.cut none none r = q2 at *
          have HE := Lib.hid (show (AT.node b k v q1 q2).size = q1.size + 1 + q2.size ∧ (AT.node b k v q1 q2).sum seed = mark seed (q1.sum seed) k v (q2.sum seed) from ⟨by simp only [AT.size]; omega, rfl⟩)
          generalize (AT.node b k v q1 q2) = q3 at *
          have hw1 : IntKind.i64.wrap ((q1.size : Int) + 1) = (q1.size : Int) + 1 := wrap_i64_fit (by omega) (by omega)
          have hw2 : IntKind.i64.wrap ((q1.size : Int) + 1 + (q2.size : Int)) = (q1.size : Int) + 1 + (q2.size : Int) := wrap_i64_fit (by omega) (by omega)
          clear hm ht hA hB hN hkv ihl ihr hlo hhi e1 e2 e4 e5 e6 s1 hcut
          go_enter Try.func78, Try.ntmps78
          go_wp2_with ((go_at_call 61; refine HC1.out.mono ?_; rintro e w' ⟨rfl, rfl⟩; clear HC1))
          refine HI1.out.mono ?_
          rintro e w3 ⟨rfl, hk3⟩
          have K3 := Lib.hid hk3
          have g4 := (HM.out _ hk3).2.2.2
          clear hk3 HI1
          go_wp2_with fail
          refine (HI2.out _ K3.out).mono ?_
          rintro e w4 ⟨rfl, hk4⟩
          have K4 := Lib.hid (K3.out.trans hk4 (fun _ x => x.elim))
          have K5 := Lib.hid K4.out.drew
          clear hk4 HI2 g4 K3
          go_wp2_with fail
          go_region_held3 (fun w' => w'.cell? ⟨b, 0, none⟩ = some (.slice A1 k.length c1) ∧ w'.cell? ⟨b, 1, none⟩ = some (.slice B1 v.length d1) ∧ w'.cell? ⟨mb, 1, none⟩ = some (.int .u64 seed) ∧ Keep No w w')
            (first
              | with_reducible exact ⟨(HM.out _ K6.out).1, (HM.out _ K6.out).2.1, (HM.out _ K6.out).2.2.1, K6.out⟩
              | with_reducible exact ⟨(HM.out _ K5.out).1, (HM.out _ K5.out).2.1, (HM.out _ K5.out).2.2.1, K5.out⟩
              | fail)
            (first
              | (go_at_call 60; refine (digestOf_any seed _ _ A1 B1 _ c1 _ d1 k v _ (HAB.out.1.new_ K5.out) (HAB.out.2.new_ K5.out) (by omega) (by omega) hn1 hn2).mono ?_; rintro e w6 ⟨rfl, hk6⟩; have K6 := Lib.hid (K5.out.trans hk6 (fun _ x => x.elim)); clear hk6)
              | fail)
          go_wp2
          go_ret2
          exact ⟨ret_pair (by rw [HE.out.1]; push_cast; first | rfl | omega) HE.out.2.symm, K6.out⟩
        | some h2 =>
          have hhb := hhi h2 rfl
          have HC2 := Lib.hid (bcompare A1 B _ c1 m d k h2 w hA hhb)
          by_cases hb2 : Lt k h2
          · have z2 : Lib.compareBytes k h2 < 0 := hb2
            have hcut : AT.cut (some f) (some h2) (.node b k v l r) = .node b k v (AT.cut (some f) none l) (AT.cut none (some h2) r) := by rw [AT.cut, if_neg (by simp), if_neg (by simp [belowLo, hb1]), if_neg (by simp [beyondHi, hb2])]
            rw [hcut]
            have HI1 := Lib.hid (ihl w A none n c 0 0 (some f) none hm ht.2.1 hlo (fun _ e => by cases e) (by omega))
            have HI2 := Lib.hid (fun W (h : Keep No w W) => ihr W none B 0 0 m d none (some h2) (hm.keep h (fun x => x)) (ht.2.2.new_ h) (fun _ e => by cases e) (fun f e => (hhi f e).new_ h) (by omega))
            have HM := Lib.hid (fun W (h : Keep No w W) => (show _ ∧ _ ∧ _ ∧ _ from ⟨(h.cell (p := ⟨b, 0, none⟩) hbs (fun x => x)).trans e0, (h.cell (p := ⟨b, 1, none⟩) hbs (fun x => x)).trans e1, (h.cell (p := ⟨mb, 1, none⟩) hms (fun x => x)).trans s1, (h.cell (p := ⟨b, 4, none⟩) hbs (fun x => x)).trans e4⟩))
            have HAB := Lib.hid (show _ ∧ _ from ⟨hA, hB⟩)
            have hs1 := cut_size l (some f) none
            have hs2 := cut_size r none (some h2)
            have hn1 := AT.sum_nonneg seed (AT.cut (some f) none l)
            have hn2 := AT.sum_nonneg seed (AT.cut none (some h2) r)
            generalize Lib.compareBytes k f = y1 at *
            generalize Lib.compareBytes k h2 = y2 at *
            generalize AT.cut (some f) none l = q1 at *
            generalize AT.cut none (some h2) r = q2 at *
            have HE := Lib.hid (show (AT.node b k v q1 q2).size = q1.size + 1 + q2.size ∧ (AT.node b k v q1 q2).sum seed = mark seed (q1.sum seed) k v (q2.sum seed) from ⟨by simp only [AT.size]; omega, rfl⟩)
            generalize (AT.node b k v q1 q2) = q3 at *
            have hw1 : IntKind.i64.wrap ((q1.size : Int) + 1) = (q1.size : Int) + 1 := wrap_i64_fit (by omega) (by omega)
            have hw2 : IntKind.i64.wrap ((q1.size : Int) + 1 + (q2.size : Int)) = (q1.size : Int) + 1 + (q2.size : Int) := wrap_i64_fit (by omega) (by omega)
            clear hm ht hA hB hN hkv ihl ihr hlo hhi e1 e2 e4 e5 e6 s1 hcut
            go_enter Try.func78, Try.ntmps78
            go_wp2_with (first
              | (go_at_call 61; refine HC1.out.mono ?_; rintro e w' ⟨rfl, rfl⟩; clear HC1)
              | (go_at_call 61; refine HC2.out.mono ?_; rintro e w' ⟨rfl, rfl⟩; clear HC2))
            refine HI1.out.mono ?_
            rintro e w3 ⟨rfl, hk3⟩
            have K3 := Lib.hid hk3
            have g4 := (HM.out _ hk3).2.2.2
            clear hk3 HI1
            go_wp2_with fail
            refine (HI2.out _ K3.out).mono ?_
            rintro e w4 ⟨rfl, hk4⟩
            have K4 := Lib.hid (K3.out.trans hk4 (fun _ x => x.elim))
            have K5 := Lib.hid K4.out.drew
            clear hk4 HI2 g4 K3
            go_wp2_with fail
            go_region_held3 (fun w' => w'.cell? ⟨b, 0, none⟩ = some (.slice A1 k.length c1) ∧ w'.cell? ⟨b, 1, none⟩ = some (.slice B1 v.length d1) ∧ w'.cell? ⟨mb, 1, none⟩ = some (.int .u64 seed) ∧ Keep No w w')
              (first
                | with_reducible exact ⟨(HM.out _ K6.out).1, (HM.out _ K6.out).2.1, (HM.out _ K6.out).2.2.1, K6.out⟩
                | with_reducible exact ⟨(HM.out _ K5.out).1, (HM.out _ K5.out).2.1, (HM.out _ K5.out).2.2.1, K5.out⟩
                | fail)
              (first
                | (go_at_call 60; refine (digestOf_any seed _ _ A1 B1 _ c1 _ d1 k v _ (HAB.out.1.new_ K5.out) (HAB.out.2.new_ K5.out) (by omega) (by omega) hn1 hn2).mono ?_; rintro e w6 ⟨rfl, hk6⟩; have K6 := Lib.hid (K5.out.trans hk6 (fun _ x => x.elim)); clear hk6)
                | fail)
            go_wp2
            go_ret2
            exact ⟨ret_pair (by rw [HE.out.1]; push_cast; first | rfl | omega) HE.out.2.symm, K6.out⟩
          · have z2 : ¬ Lib.compareBytes k h2 < 0 := hb2
            have hcut : AT.cut (some f) (some h2) (.node b k v l r) = AT.cut (some f) (some h2) l := by rw [AT.cut, if_neg (by simp), if_neg (by simp [belowLo, hb1]), if_pos (by simp [beyondHi, hb2])]
            rw [hcut]
            have HI := Lib.hid (ihl w A B n c m d (some f) (some h2) hm ht.2.1 hlo hhi (by omega))
            generalize Lib.compareBytes k f = y1 at *
            generalize Lib.compareBytes k h2 = y2 at *
            generalize AT.cut (some f) (some h2) l = q at *
            clear hm ht hA hB hN hkv ihl ihr hlo hhi e1 e2 e4 e5 e6 s1 hcut
            go_enter Try.func78, Try.ntmps78
            go_wp2_with (first
              | (go_at_call 61; refine HC1.out.mono ?_; rintro e w' ⟨rfl, rfl⟩; clear HC1)
              | (go_at_call 61; refine HC2.out.mono ?_; rintro e w' ⟨rfl, rfl⟩; clear HC2))
            refine HI.out.mono ?_
            rintro e w3 ⟨rfl, hk3⟩
            have K3 := Lib.hid hk3
            clear hk3 HI
            go_wp2
            go_ret2
            exact ⟨rfl, K3.out⟩

/-! ### SpanDigest -/
def spanPairs (lo : List UInt8) (hi : Option (List UInt8)) (l : PairL) : PairL := l.filter (inSpan (some lo) hi)
set_option maxHeartbeats 1000000 in
set_option maxRecDepth 100000 in
theorem spanDigest_any {base : Nat} {w : World} {seed : Int} {mb : Nat} {l : PairL} {F : List Nat} {A B : Option Addr} {n c m d : Nat} {lo hi : List UInt8} {bd : Bool} (h : MSt base w mb seed l F) (hlo : Bytes base w A n lo) (hhi : Bytes base w B m hi) (hsz : l.length ≤ 900000) :
    Calls Try.prog 38 #[.pointer (some ⟨mb, 0, none⟩), .slice A n c, .slice B m d, .bool bd] w fun e w' =>
      e = .returned (.tuple #[.int .i64 ((spanPairs lo (if bd then some hi else none) l).length : Nat), .int .u64 (digest seed (spanPairs lo (if bd then some hi else none) l))]) ∧ Keep No w w' := by
  obtain ⟨t, hO, hwf, rfl, rfl⟩ := h
  rw [toList_length] at hsz
  have HR := Lib.hid (real_any hO.has)
  obtain ⟨_, _, m2⟩ := hO.has.cells
  obtain ⟨ho, hho⟩ : ∃ ho, ho = (if bd then some hi else none) := ⟨_, rfl⟩
  have hbd : ho.isSome = bd := by rw [hho]; cases bd <;> rfl
  have hP := part_any (seed := seed) (root := t.ptr) t w A B n c m d (some lo) ho hO.has hO.rep (fun f e => by injection e with e; subst e; exact hlo) (fun f e => by
    rw [hho] at e
    cases bd with
    | false => cases e
    | true => injection e with e; subst e; exact hhi) (by omega)
  rw [← hho]
  have hE : spanPairs lo ho t.toList = (AT.cut (some lo) ho t).toList := (cut_list hwf.sorted _ _).symm
  rw [hE, ← digest_eq (cut_wf hwf _ _), toList_length]
  rw [hbd] at hP
  have HP := Lib.hid hP
  generalize AT.cut (some lo) ho t = q at *
  clear hO hwf hlo hhi hP hE hho hbd
  go_enter Try.func38, Try.ntmps38
  go_wp2_with (first
    | (go_at_call 64; refine HR.out.mono ?_; rintro e w' ⟨rfl, rfl⟩)
    | (go_at_call 78; refine HP.out.mono ?_; rintro e w2 ⟨rfl, hk2⟩; have K2 := Lib.hid hk2; clear hk2))
  go_ret2
  exact ⟨rfl, K2.out⟩
end Go.Proofs.Ytdmckjojeddaaaa
