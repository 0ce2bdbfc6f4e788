/- Contract of the reference's Load. Conditions: it names its own. -/
import Derived.Test.YtdmckjojeddaaaaLE
import Derived.Test.YtdmckjojeddaaaaLD
import Derived.Test.YtdmckjojeddaaaaW1
namespace Go.Proofs.Ytdmckjojeddaaaa
open Go.RowKit Go.Proofs.YtdmckjojeddaaaaKit Go.Proofs.YtdmckjojeddaaaaPlain

def loadGo : PairL → PairL → Option PairL
  | [], acc => some acc
  | p :: l, acc => if allowedB p.1 p.2 = true ∧ hasL p.1 acc = false then loadGo l (putL acc p.1 p.2) else none
theorem loadGo_at {l acc : PairL} {k : Nat} (h : k < l.length) : loadGo (l.drop k) acc = if allowedB l[k].1 l[k].2 = true ∧ hasL l[k].1 acc = false then loadGo (l.drop (k + 1)) (putL acc l[k].1 l[k].2) else none := by
  rw [List.drop_eq_getElem_cons h, loadGo]
def rloadL (seed : Int) (bs : List UInt8) : Option PairL := (listedL bs).bind fun l => if 100000 < l.length then none else (loadGo l []).bind fun l' => if imageL seed l' = bs then some l' else none
theorem listGo_length : ∀ (n : Nat) (bs : List UInt8) (l : PairL), bs.length ≤ n → listGo bs = some l → 4 * l.length ≤ bs.length := by
  intro n
  induction n with
  | zero =>
    intro bs l hn h
    have : bs = [] := List.eq_nil_of_length_eq_zero (by omega)
    subst this
    rw [listGo_nil] at h
    injection h with h
    subst h
    simp
  | succ n ih =>
    intro bs l hn h
    match bs, hn, h with
    | [], _, h =>
      rw [listGo_nil] at h
      injection h with h
      subst h
      simp
    | [_], _, h => rw [listGo_short (by simp) (by simp)] at h; cases h
    | [_, _], _, h => rw [listGo_short (by simp) (by simp)] at h; cases h
    | [_, _, _], _, h => rw [listGo_short (by simp) (by simp)] at h; cases h
    | x0 :: x1 :: x2 :: x3 :: rest, hn, h =>
      rw [listGo] at h
      split at h
      · cases h
      · obtain ⟨l2, h2, rfl⟩ := Option.map_eq_some_iff.1 h
        have h3 := ih _ _ (by rw [List.length_drop]; simp at hn; omega) h2
        rw [List.length_drop] at h3
        simp only [List.length_cons]
        omega
theorem listedL_length {bs : List UInt8} {l : PairL} (h : listedL bs = some l) : 4 * l.length ≤ bs.length := by
  unfold listedL at h
  split at h
  · cases h
  · obtain ⟨l2, h2, h3⟩ := Option.bind_eq_some_iff.1 h
    split at h3
    · injection h3 with h3
      subst h3
      have := listGo_length _ _ _ (Nat.le_refl _) h2
      rw [List.length_drop] at this
      omega
    · cases h3

/-- What the reference's Load hands back. -/
def RLoadRet (base : Nat) (w : World) (o : Option PairL) (e : Ending) (w' : World) : Prop := Keep No w w' ∧ match o with
  | none => ∃ v, e = .returned (.tuple #[v, .bool false])
  | some l => ∃ A c, e = .returned (.tuple #[.slice A l.length c, .bool true]) ∧ l.length ≤ c ∧ OwnP base w l (.slice A l.length c) w' ∧ Okay l
theorem RLoadRet.no {base : Nat} {w w' : World} {o : Option PairL} {v : Value} (h : o = none) (hk : Keep No w w') : RLoadRet base w o (.returned (.tuple #[v, .bool false])) w' := by subst h; exact ⟨hk, _, rfl⟩

set_option maxHeartbeats 4000000 in
set_option maxRecDepth 100000 in
theorem rload_any {base : Nat} {w : World} (seed : Int) (A : Option Addr) (n c : Nat) (bs : List UInt8) (h : Bytes base w A n bs) (hc : n ≤ c) (hn : n ≤ 40000) (hb : base ≤ w.heap.size) :
    Calls Try.prog 34 #[.int .u64 seed, .slice A n c] w (RLoadRet base w (rloadL seed bs)) := by
  obtain rfl := h.len
  have H := Lib.hid h
  have HL := Lib.hid (listed_any A bs.length c bs h hc (by omega) hb)
  clear h
  cases hl : listedL bs with
  | none =>
    rw [hl] at HL
    have hr := Lib.hid (show rloadL seed bs = none by rw [rloadL, hl]; rfl)
    clear hl
    go_enter Try.func34, Try.ntmps34
    go_wp2_with fail
    refine HL.out.mono ?_
    rintro e w1 ⟨k1, v, rfl⟩
    go_wp2
    go_ret2
    exact RLoadRet.no hr.out k1
  | some l =>
    rw [hl] at HL
    have hll := listedL_length hl
    have hr := Lib.hid (show rloadL seed bs = (loadGo (l.drop 0) []).bind fun l' => if imageL seed l' = bs then some l' else none by rw [rloadL, hl, Option.bind_some, if_neg (by omega), List.drop_zero])
    clear hl
    go_enter Try.func34, Try.ntmps34
    go_wp2_with fail
    refine HL.out.mono ?_
    rintro e w1 ⟨k1, A1, c1, rfl, hc1, ho1, hsm⟩
    have H1 := Lib.hid (show _ ∧ _ ∧ _ from ⟨ho1.pairs, hsm, k1⟩)
    have hb1 : base ≤ w1.heap.size := Nat.le_trans hb k1.size
    have hd : decide ((l.length : Int) > 100000) = false := decide_eq_false (by omega)
    clear ho1 hsm k1 HL
    go_wp2_with fail
    go_loopw [8, 9] (fun v8 v9 wr => ∃ (k : Nat) (acc : PairL), k ≤ l.length ∧ v9 = .int .i64 k ∧ Hid (rloadL seed bs = (loadGo (l.drop k) acc).bind fun l' => if imageL seed l' = bs then some l' else none) ∧ OwnP base w1 acc v8 wr ∧ Hid (Okay acc) ∧ acc.length ≤ k) (fun _ i _ => l.length - (intOf i).toNat)
    case atStart => exact ⟨0, [], Nat.zero_le _, rfl, hr, OwnP.start _ _, Lib.hid (fun p hp => by cases hp), Nat.le_refl _⟩
    case round =>
      clear hr
      obtain ⟨k, acc, hk, rfl, he, ho, hok, hal⟩ := hrel
      obtain ⟨A0, n0, c0, rfl, hn0, hc0⟩ := ho.shape
      obtain rfl := hn0.out
      clear hn0
      by_cases hlt : k < l.length
      · have hkw := ho.keepTo
        obtain ⟨ad, A1, c1, A2, c2, rfl, him, e0, e1, b1, b2⟩ := (H1.out.1.new_ hkw).at_ hlt
        have hst := Lib.hid (he.out.trans (congrArg (fun o => Option.bind o _) (loadGo_at hlt)))
        have hab := him.lt
        have i0 : (0 : Int) ≤ (k : Int) := by omega
        have i1 : (k : Int) < (l.length : Int) := by omega
        have hlp := Lib.hid (length_putL acc l[k].1 l[k].2)
        have hps := H1.out.2.1 _ (List.getElem_mem hlt)
        have hps1 := hps.1
        have hps2 := hps.2
        clear hps
        generalize l[k] = p at *
        have HO := Lib.hid ho
        have HA := Lib.hid (fun q => rallowed_any A1 A2 _ c1 _ c2 p.1 p.2 (wr.drewN q) (b1.drewN q) (b2.drewN q))
        have HH := Lib.hid (fun q => rhas_any (b1 := base) (b2 := base) A0 A1 _ c0 _ c1 acc p.1 (wr.drewN q) (ho.pairs.new_ ((Keep.refl No wr).drewN q)) (b1.drewN q) hok.out.small (by omega) (by omega))
        have HB := Lib.hid (show _ ∧ _ from ⟨b1, b2⟩)
        clear ho him b1 b2 he hkw
        by_cases hgo : allowedB p.1 p.2 = true ∧ hasL p.1 acc = false
        · rw [hgo.1] at HA
          rw [hgo.2] at HH
          have hst2 := Lib.hid (hst.out.trans (by rw [if_pos hgo]))
          have hkv := keyOk_of hgo.1
          have hs1 := hkv.2.1
          have hs2 := hkv.2.2
          have HKV := Lib.hid hkv
          clear hst hgo hkv
          go_wp2_with fail
          go_quiet ((first | (go_at_call 40; exact quiet_drawn (HA.out _)) | (go_at_call 51; exact quiet_drawn2 (HH.out _))))
          obtain ⟨w2, hw2⟩ : ∃ x, x = wr.drewN nq := ⟨_, rfl⟩
          rw [← hw2]
          have hd2 : Keep No wr w2 := hw2 ▸ (Keep.refl No wr).drewN nq
          have e0' : w2.cell? (ad.add (k * 2)) = some (.slice A1 p.1.length c1) := hw2 ▸ e0
          have e1' : w2.cell? ⟨(ad.add (k * 2)).block, (ad.add (k * 2)).off + 1, none⟩ = some (.slice A2 p.2.length c2) := hw2 ▸ e1
          have O1 := HO.out.later hd2
          have hab1 := Nat.lt_of_lt_of_le hab hd2.size
          have hbs := Nat.le_trans hb1 O1.lt
          have HP := Lib.hid (rput_any A0 A1 A2 acc.length c0 _ c1 _ c2 acc p.1 p.2 w2.drew (O1.later ((Keep.refl No w2).drew)).pairs (HB.out.1.new_ (hd2.drew)) (HB.out.2.new_ (hd2.drew)) hok.out.small (by omega) (by omega) (by omega) hc0 hbs)
          have HO1 := Lib.hid O1
          clear HO HB HA HH hd2 hw2 O1 e0 e1 hab
          go_wp2_with fail
          go_region_held3 (fun w' => w'.cell? (ad.add (k * 2)) = some (.slice A1 p.1.length c1) ∧ w'.cell? ⟨(ad.add (k * 2)).block, (ad.add (k * 2)).off + 1, none⟩ = some (.slice A2 p.2.length c2))
            (first
              | exact ⟨(hkd.cell (p := ad.add (k * 2)) (by rw [block_of_add]; exact hab1) (fun x => x)).trans e0', (hkd.cell (p := ⟨(ad.add (k * 2)).block, (ad.add (k * 2)).off + 1, none⟩) (by show (ad.add (k * 2)).block < _; rw [block_of_add]; exact hab1) (fun x => x)).trans e1'⟩
              | exact ⟨e0', e1'⟩
              | go_keep)
            ((go_at_call 45; refine HP.out.mono ?_; rintro e w3 ⟨A5, c5, rfl, hc5, ho5⟩; have hkd := ho5.keepTo))
          have O5 := OwnP.of_ HO1.out.keepTo.drew ho5
          have hok5 := hok.out.put HKV.out
          have hl5 := hlp.out
          have H5 := Lib.hid (show _ ∧ _ ∧ _ from ⟨O5, hok5, hl5⟩)
          generalize putL acc p.1 p.2 = acc2 at *
          clear O5 hok5 hl5 ho5 hkd HP HO1 hlp
          go_wp2
          go_roundw
          case rel => exact ⟨k + 1, acc2, by omega, by go_num, hst2, H5.out.1, Lib.hid H5.out.2.1, by have := H5.out.2.2; omega⟩
          case measure => simp [intOf]; omega
        · have hst2 := Lib.hid (hst.out.trans (show _ = none by rw [if_neg hgo]; rfl))
          have HKW := Lib.hid (H1.out.2.2.trans HO.out.keepTo (fun _ x => x.elim))
          by_cases ha : allowedB p.1 p.2 = true
          · have hh : hasL p.1 acc = true := by
              cases h : hasL p.1 acc with
              | true => rfl
              | false => exact absurd ⟨ha, h⟩ hgo
            rw [ha] at HA
            rw [hh] at HH
            clear hst hgo ha hh
            go_wp2_with fail
            go_quiet ((first | (go_at_call 40; exact quiet_drawn (HA.out _)) | (go_at_call 51; exact quiet_drawn2 (HH.out _))))
            go_wp2
            go_ret2
            exact RLoadRet.no hst2.out (HKW.out.drewN _)
          · have ha2 : allowedB p.1 p.2 = false := by simpa using ha
            rw [ha2] at HA
            clear hst hgo ha ha2
            go_wp2_with fail
            go_quiet ((go_at_call 40; exact quiet_drawn (HA.out _)))
            go_wp2
            go_ret2
            exact RLoadRet.no hst2.out (HKW.out.drewN _)
      · have hkl : k = l.length := by omega
        have hst := Lib.hid (he.out.trans (show _ = if imageL seed acc = bs then some acc else none by rw [List.drop_of_length_le (by omega)]; rfl))
        subst hkl
        have HI := Lib.hid (rimage_any (seed := seed) ho.pairs hc0 hok.out (by omega) (Nat.le_trans hb1 ho.lt))
        have HO := Lib.hid (show _ ∧ _ from ⟨ho, H1.out.2.2⟩)
        have hil := imageL_length (seed := seed) hok.out
        clear ho he
        obtain ⟨im, him⟩ : ∃ x, x = imageL seed acc := ⟨_, rfl⟩
        rw [← him] at HI hst hil
        clear him
        have hil2 : im.length ≤ 200000000 := by omega
        clear hil
        go_wp2_with fail
        refine HI.out.mono ?_
        rintro e w2 ⟨A2, n2, c2, rfl, O2⟩
        have hn2 := O2.num
        subst hn2
        have k2 := O2.kp
        have HC := Lib.hid (rcompare_any (b1 := base) (b2 := base) A2 A im.length c2 bs.length c im bs w2 O2.bytes (H.out.new_ (HO.out.2.trans (HO.out.1.keepTo.trans k2 (fun _ x => x.elim)) (fun _ x => x.elim))) (by omega) (by omega))
        have HOK := Lib.hid (HO.out.1.later k2)
        clear O2 k2 HI
        go_wp2_with fail
        refine HC.out.mono ?_
        rintro e w3 ⟨rfl, q, rfl⟩
        clear HC
        by_cases hq : im = bs
        · have hst2 := Lib.hid (hst.out.trans (if_pos hq))
          have hc0' : (rcmp im bs == 0) = true := by simp [rcmp_eq.2 hq]
          clear hst hq
          generalize rcmp im bs = cr at *
          go_wp2
          go_ret2
          rw [hst2.out]
          exact ⟨HO.out.2.trans ((HOK.out.drewN q).keepTo) (fun _ x => x.elim), A0, c0, rfl, hc0, (OwnP.of_ HO.out.2 HOK.out).drewN q, hok.out⟩
        · have hst2 := Lib.hid (hst.out.trans (if_neg hq))
          have hc0' : (rcmp im bs == 0) = false := beq_eq_false_iff_ne.2 (fun h => hq (rcmp_eq.1 h))
          clear hst hq
          generalize rcmp im bs = cr at *
          go_wp2
          go_ret2
          exact RLoadRet.no hst2.out (HO.out.2.trans ((HOK.out.drewN q).keepTo) (fun _ x => x.elim))
end Go.Proofs.Ytdmckjojeddaaaa

namespace Go.Proofs.Ytdmckjojeddaaaa
open Go.RowKit Go.Proofs.YtdmckjojeddaaaaKit Go.Proofs.YtdmckjojeddaaaaPlain

def AT.pre : AT → PairL
  | .nil => []
  | .node _ k v l r => (k, v) :: (l.pre ++ r.pre)
theorem pre_perm (t : AT) : t.pre.Perm t.toList := by
  induction t with
  | nil => exact .refl _
  | node b k v l r ihl ihr =>
    simp only [AT.pre, AT.toList]
    exact (List.Perm.cons _ (ihl.append ihr)).trans List.perm_middle.symm
theorem listGo_head {a b : Bool} {k v rest : List UInt8} (h : keyOk k v) : listGo (imageL1 a b k v ++ rest) = (listGo rest).map ((k, v) :: ·) := by
  obtain ⟨x0, x1, x2, x3, e, g0, g1, g2⟩ := head_parts a b h
  have hn : numL [x2, x3] = v.length := by simp only [numL]; omega
  rw [e]
  simp only [List.cons_append, List.append_assoc]
  rw [listGo, if_neg (by rw [hn, g1]; simp), hn, g1]
  have e1 : (k ++ (v ++ rest)).drop (k.length + v.length) = rest := by rw [← List.drop_drop]; simp
  rw [e1]
  simp
theorem listGo_parts (t : AT) : ∀ (rest : List UInt8), Okay t.toList → listGo (t.parts.flatten ++ rest) = (listGo rest).map (t.pre ++ ·) := by
  induction t with
  | nil => intro rest _; simp [AT.parts, AT.pre]
  | node b k v l r ihl ihr =>
    intro rest h
    have hl : Okay l.toList := fun p hp => h p (by simp [AT.toList, hp])
    have hr : Okay r.toList := fun p hp => h p (by simp [AT.toList, hp])
    have hk : keyOk k v := h (k, v) (by simp [AT.toList])
    rw [AT.parts, List.flatten_cons, List.flatten_append, List.append_assoc, List.append_assoc, listGo_head hk, ihl _ hl, ihr _ hr, Option.map_map, Option.map_map]
    congr 1
    funext x
    simp [AT.pre]
theorem loadGo_all : ∀ (ps acc : PairL), Sorted acc → (∀ p ∈ ps, keyOk p.1 p.2) → ps.Pairwise (fun a b => a.1 ≠ b.1) → (∀ p ∈ ps, ∀ q ∈ acc, q.1 ≠ p.1) → loadGo ps acc = some (putAll acc ps) := by
  intro ps
  induction ps with
  | nil => intro acc _ _ _ _; rfl
  | cons p ps ih =>
    intro acc hs hok hd hn
    rw [List.pairwise_cons] at hd
    have h1 : allowedB p.1 p.2 = true := allowedB_iff.2 (hok p List.mem_cons_self)
    have h2 : hasL p.1 acc = false := by
      cases h : hasL p.1 acc with
      | false => rfl
      | true =>
        obtain ⟨q, hq, e⟩ := (hasL_iff hs).1 h
        exact absurd e (hn p List.mem_cons_self q hq)
    rw [loadGo, if_pos ⟨h1, h2⟩, ih _ (putL_sorted hs) (fun q hq => hok q (List.mem_cons_of_mem _ hq)) hd.2 (fun q hq x hx e => ?_)]
    · rfl
    · rcases (mem_put_iff hs).1 hx with rfl | ⟨hx, _⟩
      · exact hd.1 q hq e
      · exact hn q (List.mem_cons_of_mem _ hq) x hx e
theorem loadGo_some : ∀ (ps acc r : PairL), Sorted acc → Okay acc → loadGo ps acc = some r → Sorted r ∧ Okay r ∧ r.length ≤ acc.length + ps.length := by
  intro ps
  induction ps with
  | nil => intro acc r hs ho h; injection h with h; subst h; exact ⟨hs, ho, by simp⟩
  | cons p ps ih =>
    intro acc r hs ho h
    rw [loadGo] at h
    split at h
    · rename_i hc
      obtain ⟨h1, h2, h3⟩ := ih _ _ (putL_sorted hs) (ho.put (allowedB_iff.1 hc.1)) h
      have := length_putL acc p.1 p.2
      exact ⟨h1, h2, by simp only [List.length_cons]; omega⟩
    · cases h
theorem rload_some {seed : Int} {bs : List UInt8} {l : PairL} (h : rloadL seed bs = some l) : imageL seed l = bs ∧ Sorted l ∧ Okay l ∧ 4 * l.length ≤ bs.length := by
  unfold rloadL at h
  obtain ⟨l1, h1, h2⟩ := Option.bind_eq_some_iff.1 h
  split at h2
  · cases h2
  · obtain ⟨l2, h3, h4⟩ := Option.bind_eq_some_iff.1 h2
    split at h4
    · rename_i he
      injection h4 with h4
      subst h4
      obtain ⟨g1, g2, g3⟩ := loadGo_some _ _ _ List.Pairwise.nil (fun p hp => by cases hp) h3
      have := listedL_length h1
      exact ⟨he, g1, g2, by simp at g3; omega⟩
    · cases h4
theorem rload_image {seed : Int} {l : PairL} (hs : Sorted l) (hok : Okay l) (hl : l.length ≤ 100000) : rloadL seed (imageL seed l) = some l := by
  obtain ⟨h1, h2⟩ := tmpl_wf (seed := seed) hs
  generalize tmpl seed l = t at h1 h2
  subst h2
  obtain ⟨bs, hbs⟩ : ∃ x, x = imageL seed t.toList := ⟨_, rfl⟩
  have e := hbs
  rw [imageL_tree h1] at e
  have hp := pre_perm t
  have hlen : t.pre.length = t.size := by rw [hp.length_eq, toList_length]
  rw [toList_length] at hl
  have hnum : numL (bs.take 4) = t.size := by
    have hb : bs.take 4 = lits ((t.size : Nat) : Int) 4 := by rw [e, List.take_left' (lits_length _ _)]
    rw [hb, lits_four]
    have := num4_lits (n := t.size) (by omega)
    unfold num4 at this
    simp only [numL]
    omega
  have hli : listedL bs = some t.pre := by
    have hd : bs.drop 4 = t.parts.flatten ++ [] := by rw [e, List.drop_left' (lits_length _ _), List.append_nil]
    rw [listedL, if_neg (by rw [e, List.length_append, lits_length]; omega), hd, listGo_parts t [] hok, listGo_nil, hnum]
    simp [hlen]
  have hda : t.pre.Pairwise (fun a b => a.1 ≠ b.1) := (List.Perm.pairwise_iff (fun h => h.symm) hp).2 (sorted_ne hs)
  have hgo : loadGo t.pre [] = some t.toList := by
    rw [loadGo_all t.pre [] List.Pairwise.nil (fun p hp' => hok p (hp.mem_iff.1 hp')) hda (fun p _ q hq => by cases hq)]
    congr 1
    refine sorted_ext (putAll_sorted List.Pairwise.nil) hs fun p => ?_
    rw [mem_putAll List.Pairwise.nil hda]
    simp [hp.mem_iff]
  rw [← hbs, rloadL, hli, Option.bind_some, if_neg (by rw [hlen]; omega), hgo, Option.bind_some, if_pos hbs.symm]
theorem rload_none {seed : Int} {bs : List UInt8} (h : rloadL seed bs = none) : ¬ Imaged seed bs := by
  rintro ⟨l, hs, hok, hl, rfl⟩
  rw [rload_image hs hok hl] at h
  cases h

theorem imaged_zeros (seed : Int) : Imaged seed [0, 0, 0, 0] := ⟨[], List.Pairwise.nil, (fun p hp => by cases hp), by simp, rfl⟩
theorem bytes_four (base : Nat) (w : World) : Bytes base (w.alloc (.cells #[.int .u8 0, .int .u8 0, .int .u8 0, .int .u8 0] 5)) (some ⟨w.heap.size, 0, none⟩) 4 [0, 0, 0, 0] := by
  refine ⟨rfl, fun _ => ⟨_, rfl, (Blk.new w 5 _).imm rfl, fun j u hu => ?_⟩⟩
  rw [show (⟨w.heap.size, 0, none⟩ : Addr).add j = ⟨w.heap.size, j, none⟩ by unfold Addr.add; split <;> simp_all, (Blk.new w 5 _).cell j, ← Array.getElem?_toList]
  exact hu

set_option maxHeartbeats 4000000 in
set_option maxRecDepth 100000 in
theorem orderLoads_walk {base : Nat} (seed : Int) (A : Option Addr) (n c : Nat) (bs : List UInt8) (w : World) (h : Bytes base w A n bs) (hb : base ≤ w.heap.size) (hc : n ≤ c) :
    Calls Try.prog 7 #[.int .u64 seed, .slice A n c] w fun e w' => e = .returned (.bool true) ∧ Keep No w w' := by
  obtain rfl := h.len
  have H := Lib.hid h
  clear h
  by_cases hlong : 40000 < bs.length
  · have hd : decide ((bs.length : Int) > 40000) = true := decide_eq_true (by omega)
    go_enter Try.func7, Try.ntmps7
    go_wp2
    go_ret
    exact ⟨rfl, Keep.refl _ _⟩
  have hlen : bs.length ≤ 40000 := by omega
  have hd : decide ((bs.length : Int) > 40000) = false := decide_eq_false (by omega)
  have HR := Lib.hid (rload_any seed A bs.length c bs H.out hc hlen hb)
  have HO := Lib.hid (fun W (k : Keep No w W) => load_any seed A bs.length c bs (H.out.new_ k) hc (Nat.le_trans hb k.size))
  cases hr : rloadL seed bs with
  | none =>
    rw [hr] at HR
    have HNO := Lib.hid (rload_none hr)
    clear hr hlong
    go_enter Try.func7, Try.ntmps7
    go_wp2_with fail
    refine HR.out.mono ?_
    rintro e w1 ⟨k1, v, rfl⟩
    have K1 := Lib.hid k1
    clear k1 HR
    go_wp2_with fail
    refine (HO.out _ K1.out).mono ?_
    rintro e w2 ⟨k2, hx | ⟨rfl, _⟩⟩
    · obtain ⟨mb, l, F, rfl, hm, _, hl, e, _⟩ := hx
      exact absurd ⟨l, hm.sorted, hm.okay, hl, e⟩ HNO.out
    have K2 := Lib.hid (K1.out.trans k2 (fun _ x => x.elim))
    clear k2 HO
    go_wp2_with fail
    have k3 : Keep No w2 (w2.alloc (.cells #[.int .u8 0, .int .u8 0, .int .u8 0, .int .u8 0] 5)) := (Keep.refl No w2).alloc _
    have hb3 := Nat.le_trans hb (K2.out.trans k3 (fun _ x => x.elim)).size
    refine (load_any seed _ 4 4 [0, 0, 0, 0] (bytes_four base w2) (by omega) hb3).mono ?_
    rintro e w3 ⟨k4, hx | ⟨rfl, hx⟩⟩
    · obtain ⟨mb, l, F, rfl, _⟩ := hx
      have K4 := Lib.hid ((K2.out.trans k3 (fun _ x => x.elim)).trans k4 (fun _ x => x.elim))
      clear k4 k3
      go_wp2
      go_ret
      exact ⟨rfl, K4.out⟩
    · exact absurd (imaged_zeros seed) hx
  | some l =>
    rw [hr] at HR
    obtain ⟨h1, h2, h3, h4⟩ := rload_some hr
    have HY := Lib.hid hr
    clear hr h1 h2 h3 hlong
    go_enter Try.func7, Try.ntmps7
    go_wp2_with fail
    refine HR.out.mono ?_
    rintro e w1 ⟨k1, A1, c1, rfl, hc1, ho1, hok1⟩
    have H1 := Lib.hid (show _ ∧ _ ∧ _ from ⟨k1, ho1.pairs, hok1⟩)
    clear k1 ho1 hok1 HR
    go_wp2_with fail
    refine (HO.out _ H1.out.1).mono ?_
    rintro e w2 ⟨k2, hx | ⟨rfl, hx⟩⟩
    · obtain ⟨mb, l2, F, rfl, hm, _, hl2, he, _⟩ := hx
      have hll : l2 = l := by
        have := rload_image (seed := seed) hm.sorted hm.okay hl2
        rw [← he, HY.out] at this
        injection this with this
        exact this.symm
      subst hll
      have K2 := Lib.hid (H1.out.1.trans k2 (fun _ x => x.elim))
      have HW := Lib.hid (whole_any (d := c1) hm (H1.out.2.1.new_ k2) hc1 (Nat.le_trans hb K2.out.size) (by omega))
      clear hm he k2 hl2 HO
      go_wp2_with fail
      refine HW.out.mono ?_
      rintro e w3 ⟨rfl, k3⟩
      have K3 := Lib.hid (K2.out.trans k3 (fun _ x => x.elim))
      clear k3
      go_wp2
      go_ret
      exact ⟨rfl, K3.out⟩
    · obtain ⟨h1, h2, h3, h4⟩ := rload_some HY.out
      exact absurd ⟨l, h2, h3, by omega, h1.symm⟩ hx
end Go.Proofs.Ytdmckjojeddaaaa
