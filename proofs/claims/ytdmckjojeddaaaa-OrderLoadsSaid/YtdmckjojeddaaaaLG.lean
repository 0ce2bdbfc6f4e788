/- Contract of the reference's Load. Conditions: it names its own. -/
import Derived.Test.YtdmckjojeddaaaaLF
import Derived.Test.YtdmckjojeddaaaaLD
import Derived.Test.YtdmckjojeddaaaaW1
namespace Go.Proofs.Ytdmckjojeddaaaa
open Go.RowKit Go.Proofs.YtdmckjojeddaaaaKit Go.Proofs.YtdmckjojeddaaaaPlain

def loadGo : PairL → PairL → Option PairL
  | [], acc => some acc
  | p :: l, acc => if allowedB p.1 p.2 = true ∧ hasL p.1 acc = false then loadGo l (putL acc p.1 p.2) else none
theorem loadGo_at {l acc : PairL} {k : Nat} (h : k < l.length) : loadGo (l.drop k) acc = if allowedB l[k].1 l[k].2 = true ∧ hasL l[k].1 acc = false then loadGo (l.drop (k + 1)) (putL acc l[k].1 l[k].2) else none := by
  rw [List.drop_eq_getElem_cons h, loadGo]
def rloadL (seed : Int) (bs : List UInt8) : Option PairL := (listedL bs).bind fun l => if 100000 < l.length then none else (loadGo l []).bind fun l' => if imageL seed l' = bs then some l' else none
theorem listGo_length : ∀ (n : Nat) (bs : List UInt8) (l : PairL), bs.length ≤ n → listGo bs = some l → 4 * l.length ≤ bs.length := by
  intro n
  induction n with
  | zero =>
    intro bs l hn h
    have : bs = [] := List.eq_nil_of_length_eq_zero (by omega)
    subst this
    rw [listGo_nil] at h
    injection h with h
    subst h
    simp
  | succ n ih =>
    intro bs l hn h
    match bs, hn, h with
    | [], _, h =>
      rw [listGo_nil] at h
      injection h with h
      subst h
      simp
    | [_], _, h => rw [listGo_short (by simp) (by simp)] at h; cases h
    | [_, _], _, h => rw [listGo_short (by simp) (by simp)] at h; cases h
    | [_, _, _], _, h => rw [listGo_short (by simp) (by simp)] at h; cases h
    | x0 :: x1 :: x2 :: x3 :: rest, hn, h =>
      rw [listGo] at h
      split at h
      · cases h
      · obtain ⟨l2, h2, rfl⟩ := Option.map_eq_some_iff.1 h
        have h3 := ih _ _ (by rw [List.length_drop]; simp at hn; omega) h2
        rw [List.length_drop] at h3
        simp only [List.length_cons]
        omega
theorem listedL_length {bs : List UInt8} {l : PairL} (h : listedL bs = some l) : 4 * l.length ≤ bs.length := by
  unfold listedL at h
  split at h
  · cases h
  · obtain ⟨l2, h2, h3⟩ := Option.bind_eq_some_iff.1 h
    split at h3
    · injection h3 with h3
      subst h3
      have := listGo_length _ _ _ (Nat.le_refl _) h2
      rw [List.length_drop] at this
      omega
    · cases h3

/-- What the reference's Load hands back. -/
def RLoadRet (base : Nat) (w : World) (o : Option PairL) (e : Ending) (w' : World) : Prop := Keep No w w' ∧ match o with
  | none => ∃ v, e = .returned (.tuple #[v, .bool false])
  | some l => ∃ A c, e = .returned (.tuple #[.slice A l.length c, .bool true]) ∧ l.length ≤ c ∧ OwnP base w l (.slice A l.length c) w' ∧ Okay l
theorem RLoadRet.no {base : Nat} {w w' : World} {o : Option PairL} {v : Value} (h : o = none) (hk : Keep No w w') : RLoadRet base w o (.returned (.tuple #[v, .bool false])) w' := by subst h; exact ⟨hk, _, rfl⟩

set_option maxHeartbeats 4000000 in
set_option maxRecDepth 100000 in
theorem rload_any {base : Nat} {w : World} (seed : Int) (A : Option Addr) (n c : Nat) (bs : List UInt8) (h : Bytes base w A n bs) (hc : n ≤ c) (hn : n ≤ 40000) (hb : base ≤ w.heap.size) :
    Calls Try.prog 34 #[.int .u64 seed, .slice A n c] w (RLoadRet base w (rloadL seed bs)) := by
  obtain rfl := h.len
  have H := Lib.hid h
  have HL := Lib.hid (listed_any A bs.length c bs h hc (by omega) hb)
  clear h
  cases hl : listedL bs with
  | none =>
    rw [hl] at HL
    have hr := Lib.hid (show rloadL seed bs = none by rw [rloadL, hl]; rfl)
    clear hl
    go_enter Try.func34, Try.ntmps34
    go_wp2_with fail
    refine HL.out.mono ?_
    rintro e w1 ⟨k1, v, rfl⟩
    go_wp2
    go_ret2
    exact RLoadRet.no hr.out k1
  | some l =>
    rw [hl] at HL
    have hll := listedL_length hl
    have hr := Lib.hid (show rloadL seed bs = (loadGo (l.drop 0) []).bind fun l' => if imageL seed l' = bs then some l' else none by rw [rloadL, hl, Option.bind_some, if_neg (by omega), List.drop_zero])
    clear hl
    go_enter Try.func34, Try.ntmps34
    go_wp2_with fail
    refine HL.out.mono ?_
    rintro e w1 ⟨k1, A1, c1, rfl, hc1, ho1, hsm⟩
    have H1 := Lib.hid (show _ ∧ _ ∧ _ from ⟨ho1.pairs, hsm, k1⟩)
    have hb1 : base ≤ w1.heap.size := Nat.le_trans hb k1.size
    have hd : decide ((l.length : Int) > 100000) = false := decide_eq_false (by omega)
    clear ho1 hsm k1 HL
    go_wp2_with fail
    go_loopw [8, 9] (fun v8 v9 wr => ∃ (k : Nat) (acc : PairL), k ≤ l.length ∧ v9 = .int .i64 k ∧ Hid (rloadL seed bs = (loadGo (l.drop k) acc).bind fun l' => if imageL seed l' = bs then some l' else none) ∧ OwnP base w1 acc v8 wr ∧ Hid (Okay acc) ∧ acc.length ≤ k) (fun _ i _ => l.length - (intOf i).toNat)
    case atStart => exact ⟨0, [], Nat.zero_le _, rfl, hr, OwnP.start _ _, Lib.hid (fun p hp => by cases hp), Nat.le_refl _⟩
    case round =>
      clear hr
      obtain ⟨k, acc, hk, rfl, he, ho, hok, hal⟩ := hrel
      obtain ⟨A0, n0, c0, rfl, hn0, hc0⟩ := ho.shape
      obtain rfl := hn0.out
      clear hn0
      by_cases hlt : k < l.length
      · have hkw := ho.keepTo
        obtain ⟨ad, A1, c1, A2, c2, rfl, him, e0, e1, b1, b2⟩ := (H1.out.1.new_ hkw).at_ hlt
        have hst := Lib.hid (he.out.trans (congrArg (fun o => Option.bind o _) (loadGo_at hlt)))
        have hab := him.lt
        have i0 : (0 : Int) ≤ (k : Int) := by omega
        have i1 : (k : Int) < (l.length : Int) := by omega
        have hlp := Lib.hid (length_putL acc l[k].1 l[k].2)
        have hps := H1.out.2.1 _ (List.getElem_mem hlt)
        have hps1 := hps.1
        have hps2 := hps.2
        clear hps
        generalize l[k] = p at *
        have HO := Lib.hid ho
        have HA := Lib.hid (fun q => rallowed_any A1 A2 _ c1 _ c2 p.1 p.2 (wr.drewN q) (b1.drewN q) (b2.drewN q))
        have HH := Lib.hid (fun q => rhas_any (b1 := base) (b2 := base) A0 A1 _ c0 _ c1 acc p.1 (wr.drewN q) (ho.pairs.new_ ((Keep.refl No wr).drewN q)) (b1.drewN q) hok.out.small (by omega) (by omega))
        have HB := Lib.hid (show _ ∧ _ from ⟨b1, b2⟩)
        clear ho him b1 b2 he hkw
        by_cases hgo : allowedB p.1 p.2 = true ∧ hasL p.1 acc = false
        · rw [hgo.1] at HA
          rw [hgo.2] at HH
          have hst2 := Lib.hid (hst.out.trans (by rw [if_pos hgo]))
          have hkv := keyOk_of hgo.1
          have hs1 := hkv.2.1
          have hs2 := hkv.2.2
          have HKV := Lib.hid hkv
          clear hst hgo hkv
          go_wp2_with fail
          go_quiet ((first | (go_at_call 40; exact quiet_drawn (HA.out _)) | (go_at_call 51; exact quiet_drawn2 (HH.out _))))
          obtain ⟨w2, hw2⟩ : ∃ x, x = wr.drewN nq := ⟨_, rfl⟩
          rw [← hw2]
          have hd2 : Keep No wr w2 := hw2 ▸ (Keep.refl No wr).drewN nq
          have e0' : w2.cell? (ad.add (k * 2)) = some (.slice A1 p.1.length c1) := hw2 ▸ e0
          have e1' : w2.cell? ⟨(ad.add (k * 2)).block, (ad.add (k * 2)).off + 1, none⟩ = some (.slice A2 p.2.length c2) := hw2 ▸ e1
          have O1 := HO.out.later hd2
          have hab1 := Nat.lt_of_lt_of_le hab hd2.size
          have hbs := Nat.le_trans hb1 O1.lt
          have HP := Lib.hid (rput_any A0 A1 A2 acc.length c0 _ c1 _ c2 acc p.1 p.2 w2.drew (O1.later ((Keep.refl No w2).drew)).pairs (HB.out.1.new_ (hd2.drew)) (HB.out.2.new_ (hd2.drew)) hok.out.small (by omega) (by omega) (by omega) hc0 hbs)
          have HO1 := Lib.hid O1
          clear HO HB HA HH hd2 hw2 O1 e0 e1 hab
          go_wp2_with fail
          go_region_held3 (fun w' => w'.cell? (ad.add (k * 2)) = some (.slice A1 p.1.length c1) ∧ w'.cell? ⟨(ad.add (k * 2)).block, (ad.add (k * 2)).off + 1, none⟩ = some (.slice A2 p.2.length c2))
            (first
              | exact ⟨(hkd.cell (p := ad.add (k * 2)) (by rw [block_of_add]; exact hab1) (fun x => x)).trans e0', (hkd.cell (p := ⟨(ad.add (k * 2)).block, (ad.add (k * 2)).off + 1, none⟩) (by show (ad.add (k * 2)).block < _; rw [block_of_add]; exact hab1) (fun x => x)).trans e1'⟩
              | exact ⟨e0', e1'⟩
              | go_keep)
            ((go_at_call 45; refine HP.out.mono ?_; rintro e w3 ⟨A5, c5, rfl, hc5, ho5⟩; have hkd := ho5.keepTo))
          have O5 := OwnP.of_ HO1.out.keepTo.drew ho5
          have hok5 := hok.out.put HKV.out
          have hl5 := hlp.out
          have H5 := Lib.hid (show _ ∧ _ ∧ _ from ⟨O5, hok5, hl5⟩)
          generalize putL acc p.1 p.2 = acc2 at *
          clear O5 hok5 hl5 ho5 hkd HP HO1 hlp
          go_wp2
          go_roundw
          case rel => exact ⟨k + 1, acc2, by omega, by go_num, hst2, H5.out.1, Lib.hid H5.out.2.1, by have := H5.out.2.2; omega⟩
          case measure => simp [intOf]; omega
        · have hst2 := Lib.hid (hst.out.trans (show _ = none by rw [if_neg hgo]; rfl))
          have HKW := Lib.hid (H1.out.2.2.trans HO.out.keepTo (fun _ x => x.elim))
          by_cases ha : allowedB p.1 p.2 = true
          · have hh : hasL p.1 acc = true := by
              cases h : hasL p.1 acc with
              | true => rfl
              | false => exact absurd ⟨ha, h⟩ hgo
            rw [ha] at HA
            rw [hh] at HH
            clear hst hgo ha hh
            go_wp2_with fail
            go_quiet ((first | (go_at_call 40; exact quiet_drawn (HA.out _)) | (go_at_call 51; exact quiet_drawn2 (HH.out _))))
            go_wp2
            go_ret2
            exact RLoadRet.no hst2.out (HKW.out.drewN _)
          · have ha2 : allowedB p.1 p.2 = false := by simpa using ha
            rw [ha2] at HA
            clear hst hgo ha ha2
            go_wp2_with fail
            go_quiet ((go_at_call 40; exact quiet_drawn (HA.out _)))
            go_wp2
            go_ret2
            exact RLoadRet.no hst2.out (HKW.out.drewN _)
      · have hkl : k = l.length := by omega
        have hst := Lib.hid (he.out.trans (show _ = if imageL seed acc = bs then some acc else none by rw [List.drop_of_length_le (by omega)]; rfl))
        subst hkl
        have HI := Lib.hid (rimage_any (seed := seed) ho.pairs hc0 hok.out (by omega) (Nat.le_trans hb1 ho.lt))
        have HO := Lib.hid (show _ ∧ _ from ⟨ho, H1.out.2.2⟩)
        have hil := imageL_length (seed := seed) hok.out
        clear ho he
        obtain ⟨im, him⟩ : ∃ x, x = imageL seed acc := ⟨_, rfl⟩
        rw [← him] at HI hst hil
        clear him
        have hil2 : im.length ≤ 200000000 := by omega
        clear hil
        go_wp2_with fail
        refine HI.out.mono ?_
        rintro e w2 ⟨A2, n2, c2, rfl, O2⟩
        have hn2 := O2.num
        subst hn2
        have k2 := O2.kp
        have HC := Lib.hid (rcompare_any (b1 := base) (b2 := base) A2 A im.length c2 bs.length c im bs w2 O2.bytes (H.out.new_ (HO.out.2.trans (HO.out.1.keepTo.trans k2 (fun _ x => x.elim)) (fun _ x => x.elim))) (by omega) (by omega))
        have HOK := Lib.hid (HO.out.1.later k2)
        clear O2 k2 HI
        go_wp2_with fail
        refine HC.out.mono ?_
        rintro e w3 ⟨rfl, q, rfl⟩
        clear HC
        by_cases hq : im = bs
        · have hst2 := Lib.hid (hst.out.trans (if_pos hq))
          have hc0' : (rcmp im bs == 0) = true := by simp [rcmp_eq.2 hq]
          clear hst hq
          generalize rcmp im bs = cr at *
          go_wp2
          go_ret2
          rw [hst2.out]
          exact ⟨HO.out.2.trans ((HOK.out.drewN q).keepTo) (fun _ x => x.elim), A0, c0, rfl, hc0, (OwnP.of_ HO.out.2 HOK.out).drewN q, hok.out⟩
        · have hst2 := Lib.hid (hst.out.trans (if_neg hq))
          have hc0' : (rcmp im bs == 0) = false := beq_eq_false_iff_ne.2 (fun h => hq (rcmp_eq.1 h))
          clear hst hq
          generalize rcmp im bs = cr at *
          go_wp2
          go_ret2
          exact RLoadRet.no hst2.out (HO.out.2.trans ((HOK.out.drewN q).keepTo) (fun _ x => x.elim))
end Go.Proofs.Ytdmckjojeddaaaa
