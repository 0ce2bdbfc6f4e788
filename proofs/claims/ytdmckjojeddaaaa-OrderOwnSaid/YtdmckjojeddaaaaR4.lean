/- Contract of the laws' rising. Conditions: none but that the pairs are read. -/
import Derived.Test.YtdmckjojeddaaaaR1
import Derived.Test.YtdmckjojeddaaaaT2
namespace Go.Proofs.Ytdmckjojeddaaaa
open Go.RowKit Go.Proofs.YtdmckjojeddaaaaKit Go.Proofs.YtdmckjojeddaaaaPlain

def risingGo : PairL → PairL → Option PairL
  | [], acc => some acc
  | p :: l, acc => if allowedB p.1 p.2 then risingGo l (putL acc p.1 p.2) else none
def risingL (l : PairL) : Option PairL := if 400 < l.length then none else risingGo l []
theorem risingGo_at {l acc : PairL} {k : Nat} (h : k < l.length) : risingGo (l.drop k) acc = if allowedB l[k].1 l[k].2 then risingGo (l.drop (k + 1)) (putL acc l[k].1 l[k].2) else none := by
  rw [List.drop_eq_getElem_cons h, risingGo]

def Okay (l : List Pair) : Prop := ∀ p ∈ l, keyOk p.1 p.2
theorem Okay.small {l : List Pair} (h : Okay l) : Small l := fun p hp => by obtain ⟨h1, h2, h3⟩ := h p hp; omega
theorem Okay.put {l : List Pair} (h : Okay l) {k v : List UInt8} (hk : keyOk k v) : Okay (putL l k v) := fun p hp => by
  rcases mem_putL hp with rfl | hp
  · exact hk
  · exact h p hp
theorem keyOk_of {k v : List UInt8} (h : allowedB k v = true) : keyOk k v := allowedB_iff.1 h

def RisingRet (base : Nat) (w : World) (o : Option PairL) (e : Ending) (w' : World) : Prop := match o with
  | none => e = .returned (.tuple #[.slice none 0 0, .bool false]) ∧ Keep No w w'
  | some out => ∃ A c, e = .returned (.tuple #[.slice A out.length c, .bool true]) ∧ out.length ≤ c ∧ OwnP base w out (.slice A out.length c) w' ∧ Okay out ∧ out.length ≤ 400
theorem RisingRet.no {base : Nat} {w w' : World} {o : Option PairL} (h : o = none) (hk : Keep No w w') : RisingRet base w o (.returned (.tuple #[.slice none 0 0, .bool false])) w' := by subst h; exact ⟨rfl, hk⟩
theorem RisingRet.yes {base : Nat} {w w' : World} {o : Option PairL} {out : PairL} {v : Value} (h : o = some out) (ho : OwnP base w out v w') (hok : Okay out) (hl : out.length ≤ 400) : RisingRet base w o (.returned (.tuple #[v, .bool true])) w' := by
  subst h
  obtain ⟨A, n, c, rfl, hn, hc⟩ := ho.shape
  obtain rfl := hn.out
  exact ⟨A, c, rfl, hc, ho, hok, hl⟩
theorem OwnP.of_ {base : Nat} {w W w' : World} {l : List Pair} {v : Value} (hk : Keep No w W) (h : OwnP base W l v w') : OwnP base w l v w' := by
  obtain ⟨xs, h1, h2, h3⟩ := h
  exact ⟨xs, ownsRow_weak h1 hk.size, h2, hk.trans h3 (fun _ x => x.elim)⟩

set_option maxHeartbeats 4000000 in
set_option maxRecDepth 100000 in
theorem rising_any {base : Nat} (L : Option Addr) (m d : Nat) (l : List Pair) (w : World) (hl : Pairs base w L m l) (hb : base ≤ w.heap.size) :
    Calls Try.prog 19 #[.slice L m d] w (RisingRet base w (risingL l)) := by
  obtain rfl := hl.len (by omega)
  have HL := Lib.hid hl
  clear hl
  by_cases hlen : 400 < l.length
  · have hr := Lib.hid (show risingL l = none by rw [risingL, if_pos hlen])
    go_enter Try.func19, Try.ntmps19
    go_wp2
    go_ret2
    exact RisingRet.no hr.out (Keep.refl _ _)
  · have hr := Lib.hid (show risingL l = risingGo (l.drop 0) [] by rw [risingL, if_neg hlen]; rfl)
    go_enter Try.func19, Try.ntmps19
    go_wp2
    go_loopw [4, 5] (fun v4 v5 wr => ∃ (k : Nat) (acc : PairL), k ≤ l.length ∧ v5 = .int .i64 k ∧ Hid (risingL l = risingGo (l.drop k) acc) ∧ OwnP base w acc v4 wr ∧ Okay acc ∧ acc.length ≤ k) (fun _ i _ => l.length - (intOf i).toNat)
    case atStart => exact ⟨0, [], Nat.zero_le _, rfl, hr, OwnP.start _ _, (fun p hp => by cases hp), Nat.le_refl _⟩
    case round =>
      clear hr
      obtain ⟨k, acc, hk, rfl, he, ho, hok, hal⟩ := hrel
      by_cases hlt : k < l.length
      · obtain ⟨A0, n0, c0, rfl, hn0, hc0⟩ := ho.shape
        obtain rfl := hn0.out
        clear hn0
        have hkw := ho.keepTo
        obtain ⟨ad, A1, c1, A2, c2, rfl, him, e0, e1, b1, b2⟩ := (HL.out.new_ hkw).at_ hlt
        have hst := Lib.hid (he.out.trans (risingGo_at hlt))
        have hab := him.lt
        have i0 : (0 : Int) ≤ (k : Int) := by omega
        have i1 : (k : Int) < (l.length : Int) := by omega
        have hlp := Lib.hid (length_putL acc l[k].1 l[k].2)
        generalize l[k] = p at *
        have HO := Lib.hid ho
        have HOK := Lib.hid hok
        have HA := Lib.hid (fun q => rallowed_any A1 A2 _ c1 _ c2 p.1 p.2 (wr.drewN q) (b1.drewN q) (b2.drewN q))
        have HB := Lib.hid (show _ ∧ _ from ⟨b1, b2⟩)
        clear ho hok him b1 b2 he hkw
        by_cases hal2 : allowedB p.1 p.2 = true
        · rw [hal2] at HA
          have hst2 := Lib.hid (hst.out.trans (if_pos hal2))
          have hkv := keyOk_of hal2
          have hs1 := hkv.2.1
          have hs2 := hkv.2.2
          have HKV := Lib.hid hkv
          clear hst hal2 hkv
          go_wp2_with fail
          go_quiet ((go_at_call 40; exact quiet_drawn (HA.out _)))
          obtain ⟨w1, hw1⟩ : ∃ x, x = wr.drewN nq := ⟨_, rfl⟩
          rw [← hw1]
          have hd : Keep No wr w1 := hw1 ▸ (Keep.refl No wr).drewN nq
          have e0' : w1.cell? (ad.add (k * 2)) = some (.slice A1 p.1.length c1) := hw1 ▸ e0
          have e1' : w1.cell? ⟨(ad.add (k * 2)).block, (ad.add (k * 2)).off + 1, none⟩ = some (.slice A2 p.2.length c2) := hw1 ▸ e1
          have O1 := HO.out.later hd
          have hab1 := Nat.lt_of_lt_of_le hab hd.size
          have hbs := Nat.le_trans hb O1.lt
          have HP := Lib.hid (rput_any A0 A1 A2 acc.length c0 _ c1 _ c2 acc p.1 p.2 w1.drew (O1.later ((Keep.refl No w1).drew)).pairs (HB.out.1.new_ (hd.drew)) (HB.out.2.new_ (hd.drew)) HOK.out.small (by omega) (by omega) (by omega) hc0 hbs)
          have HO1 := Lib.hid O1
          clear HO HB HA hd hw1 O1 e0 e1 hab
          go_wp2_with fail
          go_region_held3 (fun w' => w'.cell? (ad.add (k * 2)) = some (.slice A1 p.1.length c1) ∧ w'.cell? ⟨(ad.add (k * 2)).block, (ad.add (k * 2)).off + 1, none⟩ = some (.slice A2 p.2.length c2))
            (first
              | exact ⟨(hkd.cell (p := ad.add (k * 2)) (by rw [block_of_add]; exact hab1) (fun x => x)).trans e0', (hkd.cell (p := ⟨(ad.add (k * 2)).block, (ad.add (k * 2)).off + 1, none⟩) (by show (ad.add (k * 2)).block < _; rw [block_of_add]; exact hab1) (fun x => x)).trans e1'⟩
              | exact ⟨e0', e1'⟩
              | go_keep)
            ((go_at_call 45; refine HP.out.mono ?_; rintro e w2 ⟨A5, c5, rfl, hc5, ho5⟩; have hkd := ho5.keepTo))
          have O5 := OwnP.of_ HO1.out.keepTo.drew ho5
          have hok5 := HOK.out.put HKV.out
          have hl5 := hlp.out
          have H5 := Lib.hid (show _ ∧ _ ∧ _ from ⟨O5, hok5, hl5⟩)
          generalize putL acc p.1 p.2 = acc2 at *
          clear O5 hok5 hl5 ho5 hkd HP HO1 hlp
          go_wp2
          go_roundw
          case rel => exact ⟨k + 1, acc2, by omega, by go_num, hst2, H5.out.1, H5.out.2.1, by have := H5.out.2.2; omega⟩
          case measure => simp [intOf]; omega
        · have hal3 : allowedB p.1 p.2 = false := by simpa using hal2
          rw [hal3] at HA
          have hst2 := Lib.hid (hst.out.trans (if_neg hal2))
          clear hst hal2 hal3
          go_wp2_with fail
          go_quiet ((go_at_call 40; exact quiet_drawn (HA.out _)))
          go_wp2
          go_ret2
          exact RisingRet.no hst2.out (HO.out.keepTo.drewN _)
      · have hkl : k = l.length := by omega
        have hst := Lib.hid (he.out.trans (show _ = some acc by rw [List.drop_of_length_le (by omega)]; rfl))
        subst hkl
        have HO := Lib.hid (show _ ∧ _ from ⟨ho, hok⟩)
        clear ho hok he
        go_wp2
        go_ret2
        exact RisingRet.yes hst.out HO.out.1 HO.out.2 (by omega)

end Go.Proofs.Ytdmckjojeddaaaa
