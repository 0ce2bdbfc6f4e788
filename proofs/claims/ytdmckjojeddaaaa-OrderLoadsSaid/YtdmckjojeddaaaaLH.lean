/- The reference's Load is that of the images, in plain Lean; and the walk of OrderLoads. Conditions: none but that the arguments are read. -/
import Derived.Test.YtdmckjojeddaaaaLG
namespace Go.Proofs.Ytdmckjojeddaaaa
open Go.RowKit Go.Proofs.YtdmckjojeddaaaaKit Go.Proofs.YtdmckjojeddaaaaPlain

def AT.pre : AT → PairL
  | .nil => []
  | .node _ k v l r => (k, v) :: (l.pre ++ r.pre)
theorem pre_perm (t : AT) : t.pre.Perm t.toList := by
  induction t with
  | nil => exact .refl _
  | node b k v l r ihl ihr =>
    simp only [AT.pre, AT.toList]
    exact (List.Perm.cons _ (ihl.append ihr)).trans List.perm_middle.symm
theorem listGo_head {a b : Bool} {k v rest : List UInt8} (h : keyOk k v) : listGo (imageL1 a b k v ++ rest) = (listGo rest).map ((k, v) :: ·) := by
  obtain ⟨x0, x1, x2, x3, e, g0, g1, g2⟩ := head_parts a b h
  have hn : numL [x2, x3] = v.length := by simp only [numL]; omega
  rw [e]
  simp only [List.cons_append, List.append_assoc]
  rw [listGo, if_neg (by rw [hn, g1]; simp), hn, g1]
  have e1 : (k ++ (v ++ rest)).drop (k.length + v.length) = rest := by rw [← List.drop_drop]; simp
  rw [e1]
  simp
theorem listGo_parts (t : AT) : ∀ (rest : List UInt8), Okay t.toList → listGo (t.parts.flatten ++ rest) = (listGo rest).map (t.pre ++ ·) := by
  induction t with
  | nil => intro rest _; simp [AT.parts, AT.pre]
  | node b k v l r ihl ihr =>
    intro rest h
    have hl : Okay l.toList := fun p hp => h p (by simp [AT.toList, hp])
    have hr : Okay r.toList := fun p hp => h p (by simp [AT.toList, hp])
    have hk : keyOk k v := h (k, v) (by simp [AT.toList])
    rw [AT.parts, List.flatten_cons, List.flatten_append, List.append_assoc, List.append_assoc, listGo_head hk, ihl _ hl, ihr _ hr, Option.map_map, Option.map_map]
    congr 1
    funext x
    simp [AT.pre]
theorem loadGo_all : ∀ (ps acc : PairL), Sorted acc → (∀ p ∈ ps, keyOk p.1 p.2) → ps.Pairwise (fun a b => a.1 ≠ b.1) → (∀ p ∈ ps, ∀ q ∈ acc, q.1 ≠ p.1) → loadGo ps acc = some (putAll acc ps) := by
  intro ps
  induction ps with
  | nil => intro acc _ _ _ _; rfl
  | cons p ps ih =>
    intro acc hs hok hd hn
    rw [List.pairwise_cons] at hd
    have h1 : allowedB p.1 p.2 = true := allowedB_iff.2 (hok p List.mem_cons_self)
    have h2 : hasL p.1 acc = false := by
      cases h : hasL p.1 acc with
      | false => rfl
      | true =>
        obtain ⟨q, hq, e⟩ := (hasL_iff hs).1 h
        exact absurd e (hn p List.mem_cons_self q hq)
    rw [loadGo, if_pos ⟨h1, h2⟩, ih _ (putL_sorted hs) (fun q hq => hok q (List.mem_cons_of_mem _ hq)) hd.2 (fun q hq x hx e => ?_)]
    · rfl
    · rcases (mem_put_iff hs).1 hx with rfl | ⟨hx, _⟩
      · exact hd.1 q hq e
      · exact hn q (List.mem_cons_of_mem _ hq) x hx e
theorem loadGo_some : ∀ (ps acc r : PairL), Sorted acc → Okay acc → loadGo ps acc = some r → Sorted r ∧ Okay r ∧ r.length ≤ acc.length + ps.length := by
  intro ps
  induction ps with
  | nil => intro acc r hs ho h; injection h with h; subst h; exact ⟨hs, ho, by simp⟩
  | cons p ps ih =>
    intro acc r hs ho h
    rw [loadGo] at h
    split at h
    · rename_i hc
      obtain ⟨h1, h2, h3⟩ := ih _ _ (putL_sorted hs) (ho.put (allowedB_iff.1 hc.1)) h
      have := length_putL acc p.1 p.2
      exact ⟨h1, h2, by simp only [List.length_cons]; omega⟩
    · cases h
theorem rload_some {seed : Int} {bs : List UInt8} {l : PairL} (h : rloadL seed bs = some l) : imageL seed l = bs ∧ Sorted l ∧ Okay l ∧ 4 * l.length ≤ bs.length := by
  unfold rloadL at h
  obtain ⟨l1, h1, h2⟩ := Option.bind_eq_some_iff.1 h
  split at h2
  · cases h2
  · obtain ⟨l2, h3, h4⟩ := Option.bind_eq_some_iff.1 h2
    split at h4
    · rename_i he
      injection h4 with h4
      subst h4
      obtain ⟨g1, g2, g3⟩ := loadGo_some _ _ _ List.Pairwise.nil (fun p hp => by cases hp) h3
      have := listedL_length h1
      exact ⟨he, g1, g2, by simp at g3; omega⟩
    · cases h4
theorem rload_image {seed : Int} {l : PairL} (hs : Sorted l) (hok : Okay l) (hl : l.length ≤ 100000) : rloadL seed (imageL seed l) = some l := by
  obtain ⟨h1, h2⟩ := tmpl_wf (seed := seed) hs
  generalize tmpl seed l = t at h1 h2
  subst h2
  obtain ⟨bs, hbs⟩ : ∃ x, x = imageL seed t.toList := ⟨_, rfl⟩
  have e := hbs
  rw [imageL_tree h1] at e
  have hp := pre_perm t
  have hlen : t.pre.length = t.size := by rw [hp.length_eq, toList_length]
  rw [toList_length] at hl
  have hnum : numL (bs.take 4) = t.size := by
    have hb : bs.take 4 = lits ((t.size : Nat) : Int) 4 := by rw [e, List.take_left' (lits_length _ _)]
    rw [hb, lits_four]
    have := num4_lits (n := t.size) (by omega)
    unfold num4 at this
    simp only [numL]
    omega
  have hli : listedL bs = some t.pre := by
    have hd : bs.drop 4 = t.parts.flatten ++ [] := by rw [e, List.drop_left' (lits_length _ _), List.append_nil]
    rw [listedL, if_neg (by rw [e, List.length_append, lits_length]; omega), hd, listGo_parts t [] hok, listGo_nil, hnum]
    simp [hlen]
  have hda : t.pre.Pairwise (fun a b => a.1 ≠ b.1) := (List.Perm.pairwise_iff (fun h => h.symm) hp).2 (sorted_ne hs)
  have hgo : loadGo t.pre [] = some t.toList := by
    rw [loadGo_all t.pre [] List.Pairwise.nil (fun p hp' => hok p (hp.mem_iff.1 hp')) hda (fun p _ q hq => by cases hq)]
    congr 1
    refine sorted_ext (putAll_sorted List.Pairwise.nil) hs fun p => ?_
    rw [mem_putAll List.Pairwise.nil hda]
    simp [hp.mem_iff]
  rw [← hbs, rloadL, hli, Option.bind_some, if_neg (by rw [hlen]; omega), hgo, Option.bind_some, if_pos hbs.symm]
theorem rload_none {seed : Int} {bs : List UInt8} (h : rloadL seed bs = none) : ¬ Imaged seed bs := by
  rintro ⟨l, hs, hok, hl, rfl⟩
  rw [rload_image hs hok hl] at h
  cases h

theorem imaged_zeros (seed : Int) : Imaged seed [0, 0, 0, 0] := ⟨[], List.Pairwise.nil, (fun p hp => by cases hp), by simp, rfl⟩
theorem bytes_four (base : Nat) (w : World) : Bytes base (w.alloc (.cells #[.int .u8 0, .int .u8 0, .int .u8 0, .int .u8 0] 5)) (some ⟨w.heap.size, 0, none⟩) 4 [0, 0, 0, 0] := by
  refine ⟨rfl, fun _ => ⟨_, rfl, (Blk.new w 5 _).imm rfl, fun j u hu => ?_⟩⟩
  rw [show (⟨w.heap.size, 0, none⟩ : Addr).add j = ⟨w.heap.size, j, none⟩ by unfold Addr.add; split <;> simp_all, (Blk.new w 5 _).cell j, ← Array.getElem?_toList]
  exact hu

set_option maxHeartbeats 4000000 in
set_option maxRecDepth 100000 in
theorem orderLoads_walk {base : Nat} (seed : Int) (A : Option Addr) (n c : Nat) (bs : List UInt8) (w : World) (h : Bytes base w A n bs) (hb : base ≤ w.heap.size) (hc : n ≤ c) :
    Calls Try.prog 7 #[.int .u64 seed, .slice A n c] w fun e w' => e = .returned (.bool true) ∧ Keep No w w' := by
  obtain rfl := h.len
  have H := Lib.hid h
  clear h
  by_cases hlong : 40000 < bs.length
  · have hd : decide ((bs.length : Int) > 40000) = true := decide_eq_true (by omega)
    go_enter Try.func7, Try.ntmps7
    go_wp2
    go_ret
    exact ⟨rfl, Keep.refl _ _⟩
  have hlen : bs.length ≤ 40000 := by omega
  have hd : decide ((bs.length : Int) > 40000) = false := decide_eq_false (by omega)
  have HR := Lib.hid (rload_any seed A bs.length c bs H.out hc hlen hb)
  have HO := Lib.hid (fun W (k : Keep No w W) => load_any seed A bs.length c bs (H.out.new_ k) hc (Nat.le_trans hb k.size))
  cases hr : rloadL seed bs with
  | none =>
    rw [hr] at HR
    have HNO := Lib.hid (rload_none hr)
    clear hr hlong
    go_enter Try.func7, Try.ntmps7
    go_wp2_with fail
    refine HR.out.mono ?_
    rintro e w1 ⟨k1, v, rfl⟩
    have K1 := Lib.hid k1
    clear k1 HR
    go_wp2_with fail
    refine (HO.out _ K1.out).mono ?_
    rintro e w2 ⟨k2, hx | ⟨rfl, _⟩⟩
    · obtain ⟨mb, l, F, rfl, hm, _, hl, e⟩ := hx
      exact absurd ⟨l, hm.sorted, hm.okay, hl, e⟩ HNO.out
    have K2 := Lib.hid (K1.out.trans k2 (fun _ x => x.elim))
    clear k2 HO
    go_wp2_with fail
    have k3 : Keep No w2 (w2.alloc (.cells #[.int .u8 0, .int .u8 0, .int .u8 0, .int .u8 0] 5)) := (Keep.refl No w2).alloc _
    have hb3 := Nat.le_trans hb (K2.out.trans k3 (fun _ x => x.elim)).size
    refine (load_any seed _ 4 4 [0, 0, 0, 0] (bytes_four base w2) (by omega) hb3).mono ?_
    rintro e w3 ⟨k4, hx | ⟨rfl, hx⟩⟩
    · obtain ⟨mb, l, F, rfl, _⟩ := hx
      have K4 := Lib.hid ((K2.out.trans k3 (fun _ x => x.elim)).trans k4 (fun _ x => x.elim))
      clear k4 k3
      go_wp2
      go_ret
      exact ⟨rfl, K4.out⟩
    · exact absurd (imaged_zeros seed) hx
  | some l =>
    rw [hr] at HR
    obtain ⟨h1, h2, h3, h4⟩ := rload_some hr
    have HY := Lib.hid hr
    clear hr h1 h2 h3 hlong
    go_enter Try.func7, Try.ntmps7
    go_wp2_with fail
    refine HR.out.mono ?_
    rintro e w1 ⟨k1, A1, c1, rfl, hc1, ho1, hok1⟩
    have H1 := Lib.hid (show _ ∧ _ ∧ _ from ⟨k1, ho1.pairs, hok1⟩)
    clear k1 ho1 hok1 HR
    go_wp2_with fail
    refine (HO.out _ H1.out.1).mono ?_
    rintro e w2 ⟨k2, hx | ⟨rfl, hx⟩⟩
    · obtain ⟨mb, l2, F, rfl, hm, _, hl2, he⟩ := hx
      have hll : l2 = l := by
        have := rload_image (seed := seed) hm.sorted hm.okay hl2
        rw [← he, HY.out] at this
        injection this with this
        exact this.symm
      subst hll
      have K2 := Lib.hid (H1.out.1.trans k2 (fun _ x => x.elim))
      have HW := Lib.hid (whole_any (d := c1) hm (H1.out.2.1.new_ k2) hc1 (Nat.le_trans hb K2.out.size) (by omega))
      clear hm he k2 hl2 HO
      go_wp2_with fail
      refine HW.out.mono ?_
      rintro e w3 ⟨rfl, k3⟩
      have K3 := Lib.hid (K2.out.trans k3 (fun _ x => x.elim))
      clear k3
      go_wp2
      go_ret
      exact ⟨rfl, K3.out⟩
    · obtain ⟨h1, h2, h3, h4⟩ := rload_some HY.out
      exact absurd ⟨l, h2, h3, by omega, h1.symm⟩ hx
end Go.Proofs.Ytdmckjojeddaaaa
