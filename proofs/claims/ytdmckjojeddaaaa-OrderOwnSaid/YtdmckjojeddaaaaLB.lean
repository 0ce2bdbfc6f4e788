/- Plain facts on images: the bytes of a tree tell the tree (no memory). -/
import Derived.Test.YtdmckjojeddaaaaV4
import Derived.Test.YtdmckjojeddaaaaP3
import Derived.Test.YtdmckjojeddaaaaR4
namespace Go.Proofs.Ytdmckjojeddaaaa
open Go.Proofs.YtdmckjojeddaaaaPlain

/-! ### The head of a part -/
theorem head_parts (a b : Bool) {k v : List UInt8} (hok : keyOk k v) : ∃ x0 x1 x2 x3 : UInt8, imageL1 a b k v = x0 :: x1 :: x2 :: x3 :: (k ++ v) ∧ x0.toNat = flagOf a b ∧ x1.toNat = k.length ∧ x2.toNat + x3.toNat * 256 = v.length := by
  obtain ⟨h1, h2, h3⟩ := hok
  refine ⟨UInt8.ofNat (flagOf a b), byteOf (k.length : Int), byteOf (v.length : Int), byteOf ((v.length : Int) / 256), by simp [imageL1, toldL, lits], ?_, ?_, ?_⟩
  · cases a <;> cases b <;> rfl
  · have := byteOf_toNat (k.length : Int)
    omega
  · have := byteOf_toNat (v.length : Int)
    have := byteOf_toNat ((v.length : Int) / 256)
    omega
theorem head_of (a b : Bool) {k v : List UInt8} (hok : keyOk k v) {x0 x1 x2 x3 : UInt8} (h0 : x0.toNat = flagOf a b) (h1 : x1.toNat = k.length) (h2 : x2.toNat + x3.toNat * 256 = v.length) : imageL1 a b k v = x0 :: x1 :: x2 :: x3 :: (k ++ v) := by
  obtain ⟨y0, y1, y2, y3, e, g0, g1, g2⟩ := head_parts a b hok
  have l2 := x2.toNat_lt
  have m2 := y2.toNat_lt
  have l3 := x3.toNat_lt
  have m3 := y3.toNat_lt
  rw [e, UInt8.toNat_inj.1 (h0.trans g0.symm), UInt8.toNat_inj.1 (h1.trans g1.symm), UInt8.toNat_inj.1 (show x2.toNat = y2.toNat by omega), UInt8.toNat_inj.1 (show x3.toNat = y3.toNat by omega)]
theorem flagOf_inj {a b c d : Bool} (h : flagOf a b = flagOf c d) : a = c ∧ b = d := by
  revert h; cases a <;> cases b <;> cases c <;> cases d <;> simp [flagOf]
theorem flagOf_le (a b : Bool) : flagOf a b ≤ 3 := by cases a <;> cases b <;> simp [flagOf]
theorem flagOf_of {x : Nat} (h : x ≤ 3) : ∃ a b, x = flagOf a b := by
  rcases (by omega : x = 0 ∨ x = 1 ∨ x = 2 ∨ x = 3) with rfl | rfl | rfl | rfl
  · exact ⟨false, false, rfl⟩
  · exact ⟨true, false, rfl⟩
  · exact ⟨false, true, rfl⟩
  · exact ⟨true, true, rfl⟩

/-! ### A tree that bytes tell -/
def lastOf (last : Option (List UInt8)) (l : PairL) : Option (List UInt8) := (l.getLast?.map (·.1)).or last
theorem lastOf_nil (last : Option (List UInt8)) : lastOf last [] = last := rfl
theorem lastOf_mid (last : Option (List UInt8)) (a b : PairL) (p : List UInt8 × List UInt8) : lastOf last (a ++ p :: b) = lastOf (some p.1) b := by
  unfold lastOf
  rw [List.getLast?_append, List.getLast?_cons]
  cases h : b.getLast? <;> simp
theorem lastOf_some {last : Option (List UInt8)} {l : PairL} (h : l ≠ []) : ∃ p ∈ l, lastOf last l = some p.1 := by
  unfold lastOf
  rw [List.getLast?_eq_some_getLast h]
  exact ⟨_, List.getLast_mem h, rfl⟩
theorem le_lastOf {last : Option (List UInt8)} {l : PairL} (hs : Sorted l) {x : List UInt8} (hx : lastOf last l = some x) : ∀ p ∈ l, p.1 = x ∨ Lt p.1 x := by
  intro p hp
  rcases List.eq_nil_or_concat l with rfl | ⟨a, q, rfl⟩
  · cases hp
  · rw [List.concat_eq_append] at hs hx hp
    rw [lastOf_mid, lastOf_nil] at hx
    injection hx with hx
    subst hx
    rcases List.mem_append.1 hp with hp | hp
    · exact .inr ((sorted_append.1 hs).2.2 p hp q (by simp))
    · simp at hp; subst hp; exact .inl rfl

structure Fit (seed : Int) (top : Option (List UInt8)) (bs : List UInt8) (left : Int) (last : Option (List UInt8)) (t : AT) (bs' : List UInt8) (left' : Int) (last' : Option (List UInt8)) : Prop where
  wf : WF seed t
  okay : Okay t.toList
  above : ∀ k, top = some k → ∀ p ∈ t.toList, Above seed k p.1
  more : ∀ k, last = some k → ∀ p ∈ t.toList, Lt k p.1
  bytes : bs = t.parts.flatten ++ bs'
  num : left = (t.size : Nat) + left'
  nonneg : 0 ≤ left'
  last : last' = lastOf last t.toList
theorem fit_nil {seed : Int} {top : Option (List UInt8)} {bs : List UInt8} {left : Int} {last : Option (List UInt8)} (h : 0 ≤ left) : Fit seed top bs left last .nil bs left last :=
  ⟨⟨List.Pairwise.nil, trivial⟩, fun p hp => (by cases hp), fun _ _ p hp => (by cases hp), fun _ _ p hp => (by cases hp), rfl, (by simp [AT.size]), h, rfl⟩
section
variable {seed : Int} {top : Option (List UInt8)} {bs bs1 bs2 bs3 : List UInt8} {left left2 left3 : Int} {last last2 last3 : Option (List UInt8)} {b : Nat} {k v : List UInt8} {l r : AT}
theorem fit_node (hl : Fit seed (some k) bs1 (left - 1) last l bs2 left2 last2) (hlt : ∀ x, last2 = some x → Lt x k) (hr : Fit seed (some k) bs2 left2 (some k) r bs3 left3 last3)
    (hok : keyOk k v) (htop : ∀ x, top = some x → Above seed x k) (hbs : bs = imageL1 l.ptr.isSome r.ptr.isSome k v ++ bs1) : Fit seed top bs left last (.node b k v l r) bs3 left3 last3 := by
  have hlk : ∀ p ∈ l.toList, Lt p.1 k := fun p hp => by
    obtain ⟨q, hq, e⟩ := lastOf_some (last := last) (List.ne_nil_of_mem hp)
    have e2 := hl.last.trans e
    rcases le_lastOf hl.wf.sorted e p hp with h | h
    · rw [h]; exact hlt _ e2
    · exact lt_trans h (hlt _ e2)
  have hrk : ∀ p ∈ r.toList, Lt k p.1 := hr.more k rfl
  refine ⟨⟨?_, hl.above k rfl, hr.above k rfl, hl.wf.heap, hr.wf.heap⟩, ?_, ?_, ?_, ?_, ?_, hr.nonneg, ?_⟩
  · rw [AT.toList, sorted_append, sorted_cons]
    refine ⟨hl.wf.sorted, ⟨hrk, hr.wf.sorted⟩, fun p hp q hq => ?_⟩
    rcases List.mem_cons.1 hq with rfl | hq
    · exact hlk p hp
    · exact lt_trans (hlk p hp) (hrk q hq)
  · intro p hp
    simp only [AT.toList, List.mem_append, List.mem_cons] at hp
    rcases hp with hp | rfl | hp
    · exact hl.okay p hp
    · exact hok
    · exact hr.okay p hp
  · intro x hx p hp
    simp only [AT.toList, List.mem_append, List.mem_cons] at hp
    rcases hp with hp | rfl | hp
    · exact above_trans (htop x hx) (hl.above k rfl p hp)
    · exact htop x hx
    · exact above_trans (htop x hx) (hr.above k rfl p hp)
  · intro x hx
    have hxk : Lt x k := by
      by_cases hn : l.toList = []
      · exact hlt x (by rw [hl.last, hn]; exact hx)
      · obtain ⟨q, hq⟩ := List.exists_mem_of_ne_nil _ hn
        exact lt_trans (hl.more x hx q hq) (hlk q hq)
    intro p hp
    simp only [AT.toList, List.mem_append, List.mem_cons] at hp
    rcases hp with hp | rfl | hp
    · exact hl.more x hx p hp
    · exact hxk
    · exact lt_trans hxk (hrk p hp)
  · rw [hbs, hl.bytes, hr.bytes, AT.parts]
    simp
  · have h1 := hl.num
    have h2 := hr.num
    simp only [AT.size]
    omega
  · rw [AT.toList, lastOf_mid]
    exact hr.last
theorem fit_inv (h : Fit seed top bs left last (.node b k v l r) bs3 left3 last3) : keyOk k v ∧ (∀ x, top = some x → Above seed x k) ∧ 1 ≤ left ∧
    ∃ bs1 bs2 left2 last2, bs = imageL1 l.ptr.isSome r.ptr.isSome k v ++ bs1 ∧ Fit seed (some k) bs1 (left - 1) last l bs2 left2 last2 ∧ (∀ x, last2 = some x → Lt x k) ∧ Fit seed (some k) bs2 left2 (some k) r bs3 left3 last3 := by
  obtain ⟨h1, h2, h3, h4, _⟩ := sorted_node h.wf.sorted
  obtain ⟨q1, q2, q3, q4⟩ := h.wf.heap
  have ml : ∀ p ∈ l.toList, p ∈ (AT.node b k v l r).toList := fun p hp => by simp [AT.toList, hp]
  have mk : (k, v) ∈ (AT.node b k v l r).toList := by simp [AT.toList]
  have mr : ∀ p ∈ r.toList, p ∈ (AT.node b k v l r).toList := fun p hp => by simp [AT.toList, hp]
  have hn := h.num
  have h0 := h.nonneg
  simp only [AT.size] at hn
  have hle : (1 : Int) ≤ left := by omega
  have e1 : left - 1 = ((l.size : Nat) : Int) + (((r.size : Nat) : Int) + left3) := by omega
  have e2 : (0 : Int) ≤ ((r.size : Nat) : Int) + left3 := by omega
  have hokv : keyOk k v := h.okay (k, v) mk
  refine ⟨hokv, fun x hx => h.above x hx (k, v) mk, hle, l.parts.flatten ++ (r.parts.flatten ++ bs3), r.parts.flatten ++ bs3, ((r.size : Nat) : Int) + left3, lastOf last l.toList, ?_, ?_, ?_, ?_⟩
  · rw [h.bytes, AT.parts]; simp
  · refine ⟨⟨h1, q3⟩, fun p hp => h.okay p (ml p hp), ?_, fun x hx p hp => h.more x hx p (ml p hp), rfl, e1, e2, rfl⟩
    intro x hx p hp
    injection hx with hx
    subst hx
    exact q1 p hp
  · intro x hx
    by_cases hn : l.toList = []
    · rw [hn, lastOf_nil] at hx
      exact h.more x hx (k, v) mk
    · obtain ⟨q, hq, e⟩ := lastOf_some (last := last) hn
      rw [hx] at e
      injection e with e
      subst e
      exact h3 q hq
  · refine ⟨⟨h2, q4⟩, fun p hp => h.okay p (mr p hp), ?_, ?_, rfl, rfl, h0, ?_⟩
    · intro x hx p hp
      injection hx with hx
      subst hx
      exact q2 p hp
    · intro x hx p hp
      injection hx with hx
      subst hx
      exact h4 p hp
    · rw [h.last, AT.toList, lastOf_mid]
end
theorem imageL1_inj {a b c d : Bool} {k v k2 v2 r1 r2 : List UInt8} (h1 : keyOk k v) (h2 : keyOk k2 v2) (h : imageL1 a b k v ++ r1 = imageL1 c d k2 v2 ++ r2) : a = c ∧ b = d ∧ k = k2 ∧ v = v2 ∧ r1 = r2 := by
  obtain ⟨x0, x1, x2, x3, e, g0, g1, g2⟩ := head_parts a b h1
  obtain ⟨y0, y1, y2, y3, e', g0', g1', g2'⟩ := head_parts c d h2
  rw [e, e'] at h
  simp only [List.cons_append, List.cons.injEq, List.append_assoc] at h
  obtain ⟨rfl, rfl, rfl, rfl, h⟩ := h
  obtain ⟨rfl, rfl⟩ := flagOf_inj (g0.symm.trans g0')
  obtain ⟨rfl, h5⟩ := List.append_inj h (by omega)
  obtain ⟨rfl, rfl⟩ := List.append_inj h5 (by omega)
  exact ⟨rfl, rfl, rfl, rfl, rfl⟩
theorem fit_unique {seed : Int} : ∀ (t u : AT) {top : Option (List UInt8)} {bs bs1 bs2 : List UInt8} {left left1 left2 : Int} {last last1 last2 : Option (List UInt8)},
    Fit seed top bs left last t bs1 left1 last1 → Fit seed top bs left last u bs2 left2 last2 → t.ptr.isSome = u.ptr.isSome → t.shape = u.shape ∧ bs1 = bs2 ∧ left1 = left2 ∧ last1 = last2
  | .nil, .nil, top, bs, bs1, bs2, left, left1, left2, last, last1, last2, h, g, _ => by
    refine ⟨rfl, ?_, ?_, h.last.trans g.last.symm⟩
    · have := h.bytes.symm.trans g.bytes; exact this
    · have := h.num; have := g.num; omega
  | .nil, .node _ _ _ _ _, _, _, _, _, _, _, _, _, _, _, _, _, e => by cases e
  | .node _ _ _ _ _, .nil, _, _, _, _, _, _, _, _, _, _, _, _, e => by cases e
  | .node b k v l r, .node b' k' v' l' r', top, bs, bs1, bs2, left, left1, left2, last, last1, last2, h, g, _ => by
    obtain ⟨h1, _, _, c1, c2, m2, a2, e1, f1, _, f2⟩ := fit_inv h
    obtain ⟨g1, _, _, d1, d2, n2, b2, e2, k1, _, k2⟩ := fit_inv g
    obtain ⟨p1, p2, rfl, rfl, rfl⟩ := imageL1_inj h1 g1 (e1.symm.trans e2)
    obtain ⟨s1, rfl, rfl, rfl⟩ := fit_unique l l' f1 k1 p1
    obtain ⟨s2, rfl, rfl, rfl⟩ := fit_unique r r' f2 k2 p2
    exact ⟨by simp [AT.shape, s1, s2], rfl, rfl, rfl⟩

/-! ### What reading finds -/
/-- f: a tree is asked for. -/
def Got (seed : Int) (f : Bool) (top : Option (List UInt8)) (bs : List UInt8) (left : Int) (last : Option (List UInt8)) (t : AT) (bs' : List UInt8) (left' : Int) (last' : Option (List UInt8)) (bad : Bool) : Prop :=
  (bad = false ∧ t.ptr.isSome = f ∧ Fit seed top bs left last t bs' left' last') ∨ (bad = true ∧ ∀ u c m a, u.ptr.isSome = f → ¬ Fit seed top bs left last u c m a)
theorem got_nil {seed : Int} {top : Option (List UInt8)} {bs : List UInt8} {left : Int} {last : Option (List UInt8)} (h : 0 ≤ left) : Got seed false top bs left last .nil bs left last false := .inl ⟨rfl, rfl, fit_nil h⟩
theorem flat4 {x0 x1 x2 x3 y0 y1 y2 y3 : UInt8} {bs1 c1 k v : List UInt8} (h : [x0, x1, x2, x3] ++ bs1 = (y0 :: y1 :: y2 :: y3 :: (k ++ v)) ++ c1) : y0 = x0 ∧ y1 = x1 ∧ y2 = x2 ∧ y3 = x3 ∧ bs1 = k ++ (v ++ c1) := by
  simp only [List.cons_append, List.nil_append, List.cons.injEq, List.append_assoc] at h
  obtain ⟨h0, h1, h2, h3, h⟩ := h
  exact ⟨h0.symm, h1.symm, h2.symm, h3.symm, h⟩
section
variable {seed : Int} {top : Option (List UInt8)} {bs bs1 : List UInt8} {left : Int} {last : Option (List UInt8)} {x0 x1 x2 x3 : UInt8} {bad1 : Bool}
/-- No node begins so. -/
theorem no_head (h : (bad1 = false ∧ bs = [x0, x1, x2, x3] ++ bs1) ∨ (bad1 = true ∧ bs.length < 4)) (ht : bad1 = true ∨ left - 1 < 0 ∨ 3 < x0.toNat ∨ x1.toNat < 1 ∨ 64 < x1.toNat ∨ 1000 < x2.toNat + x3.toNat * 256) :
    ∀ u c m a, u.ptr.isSome = true → ¬ Fit seed top bs left last u c m a := by
  intro u c m a hu hf
  cases u with
  | nil => cases hu
  | node b k v l r =>
    obtain ⟨hok, _, hleft, c1, _, _, _, e1, _⟩ := fit_inv hf
    obtain ⟨y0, y1, y2, y3, e, g0, g1, g2⟩ := head_parts l.ptr.isSome r.ptr.isSome hok
    rw [e] at e1
    rcases h with ⟨rfl, hb⟩ | ⟨rfl, hb⟩
    · obtain ⟨rfl, rfl, rfl, rfl, _⟩ := flat4 (hb.symm.trans e1)
      have h3 := flagOf_le l.ptr.isSome r.ptr.isSome
      obtain ⟨o1, o2, o3⟩ := hok
      rcases ht with ht | ht | ht | ht | ht | ht
      · cases ht
      all_goals omega
    · rw [e1] at hb
      simp at hb
      omega
/-- No node has such a pair. -/
theorem no_pair (h : bs = [x0, x1, x2, x3] ++ bs1) {k v bs2 bs3 : List UInt8} {bad2 bad3 : Bool}
    (hk : (bad2 = false ∧ bs1 = k ++ bs2) ∨ (bad2 = true ∧ bs1.length < x1.toNat)) (hkl : k.length = x1.toNat)
    (hv : (bad3 = false ∧ bad2 = false ∧ bs2 = v ++ bs3) ∨ (bad3 = true ∧ (bad2 = true ∨ bs2.length < x2.toNat + x3.toNat * 256)))
    (ht : bad3 = true ∨ ∃ x, top = some x ∧ ¬ Above seed x k) : ∀ u c m a, u.ptr.isSome = true → ¬ Fit seed top bs left last u c m a := by
  intro u c m a hu hf
  cases u with
  | nil => cases hu
  | node b k' v' l r =>
    obtain ⟨hok, hab, _, c1, _, _, _, e1, _⟩ := fit_inv hf
    obtain ⟨y0, y1, y2, y3, e, g0, g1, g2⟩ := head_parts l.ptr.isSome r.ptr.isSome hok
    rw [e] at e1
    obtain ⟨rfl, rfl, rfl, rfl, hb⟩ := flat4 (h.symm.trans e1)
    rcases hk with ⟨rfl, hk⟩ | ⟨rfl, hk⟩
    · obtain ⟨rfl, hb2⟩ := List.append_inj (hk.symm.trans hb) (by omega)
      rcases ht with rfl | ⟨x, hx, hx2⟩
      · rcases hv with ⟨hv, _⟩ | ⟨_, hv | hv⟩
        · cases hv
        · cases hv
        · rw [hb2] at hv
          simp at hv
          omega
      · exact hx2 (hab x hx)
    · rw [hb] at hk
      simp at hk
      omega
end
/-- A node whose head and pair are right, with what is found below it. -/
theorem got_node {seed : Int} {top : Option (List UInt8)} {bs bs1 bs2 bs4 : List UInt8} {left left2 left4 : Int} {last last2 last4 : Option (List UInt8)} {b : Nat} {k v : List UInt8} {l r : AT} {fl fr bad2 c bad4 : Bool}
    (hbs : bs = imageL1 fl fr k v ++ bs1) (hok : keyOk k v) (htop : ∀ x, top = some x → Above seed x k)
    (hl : Got seed fl (some k) bs1 (left - 1) last l bs2 left2 last2 bad2) (hc : c = true ↔ ∃ x, last2 = some x ∧ ¬ Lt x k)
    (hr : ((bad2 = true ∨ c = true) ∧ bad4 = true) ∨ (bad2 = false ∧ c = false ∧ Got seed fr (some k) bs2 left2 (some k) r bs4 left4 last4 bad4)) :
    Got seed true top bs left last (.node b k v l r) bs4 left4 last4 bad4 := by
  have hno : bad4 = true → ∀ u c m a, u.ptr.isSome = true → ¬ Fit seed top bs left last u c m a := by
    intro h4 u c' m a hu hf
    cases u with
    | nil => cases hu
    | node b' k' v' l' r' =>
      obtain ⟨hok', _, _, d1, d2, m2, a2, e1, f1, g1, f2⟩ := fit_inv hf
      obtain ⟨rfl, rfl, rfl, rfl, rfl⟩ := imageL1_inj hok hok' (hbs.symm.trans e1)
      rcases hl with ⟨rfl, hf1, hl⟩ | ⟨rfl, hl⟩
      · obtain ⟨_, rfl, rfl, rfl⟩ := fit_unique _ _ hl f1 hf1
        rcases hr with ⟨hr | hr, _⟩ | ⟨_, _, hr⟩
        · cases hr
        · obtain ⟨x, hx, hx2⟩ := hc.1 hr
          exact hx2 (g1 x hx)
        · rcases hr with ⟨hr, _⟩ | ⟨_, hr⟩
          · rw [hr] at h4; cases h4
          · exact hr _ _ _ _ rfl f2
      · exact hl _ _ _ _ rfl f1
  cases h4 : bad4 with
  | true => exact .inr ⟨rfl, hno h4⟩
  | false =>
    rcases hr with ⟨_, hr⟩ | ⟨h2, h3, hr⟩
    · rw [hr] at h4; cases h4
    · rcases hr with ⟨_, e2, hr⟩ | ⟨hr, _⟩
      · rcases hl with ⟨_, e1, hl⟩ | ⟨hl, _⟩
        · subst e1 e2
          refine .inl ⟨rfl, rfl, fit_node hl (fun x hx => ?_) hr hok htop hbs⟩
          by_cases hlt : Lt x k
          · exact hlt
          · rw [hc.2 ⟨x, hx, hlt⟩] at h3; cases h3
        · rw [hl] at h2; cases h2
      · rw [hr] at h4; cases h4
end Go.Proofs.Ytdmckjojeddaaaa
