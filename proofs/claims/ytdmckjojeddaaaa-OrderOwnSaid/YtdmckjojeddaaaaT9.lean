/- A map as the list of its pairs: New, Put, and the laws' put. Conditions: each names its own. -/
import Derived.Test.YtdmckjojeddaaaaT6
import Derived.Test.YtdmckjojeddaaaaP3
import Derived.Test.YtdmckjojeddaaaaR4
namespace Go.Proofs.Ytdmckjojeddaaaa
open Go.RowKit Go.Proofs.YtdmckjojeddaaaaKit Go.Proofs.YtdmckjojeddaaaaPlain

/-- A map lies in memory, has these pairs, and lies in these blocks. -/
def MSt (base : Nat) (w : World) (mb : Nat) (seed : Int) (l : PairL) (F : List Nat) : Prop :=
  ∃ t, MObj base w mb seed t ∧ WF seed t ∧ t.toList = l ∧ F = mb :: t.blocks
section
variable {base : Nat} {w w1 : World} {mb : Nat} {seed : Int} {l : PairL} {F : List Nat} {S : Nat → Prop}
theorem MSt.keep (h : MSt base w mb seed l F) (hk : Keep S w w1) (hs : ∀ b, S b → Mut base w b) (hd : ∀ b ∈ F, ¬ S b) : MSt base w1 mb seed l F := by
  obtain ⟨t, h1, h2, h3, rfl⟩ := h
  exact ⟨t, h1.keep hk hs (hd mb List.mem_cons_self) (fun b hb => hd b (List.mem_cons_of_mem _ hb)), h2, h3, rfl⟩
theorem MSt.new_ (h : MSt base w mb seed l F) (hk : Keep No w w1) : MSt base w1 mb seed l F := h.keep hk (fun _ x => x.elim) (fun _ _ x => x)
theorem MSt.mut (h : MSt base w mb seed l F) : ∀ x, In F x → Mut base w x := by
  obtain ⟨t, h1, _, _, rfl⟩ := h
  exact h1.mut
theorem MSt.lt (h : MSt base w mb seed l F) {x : Nat} (hx : x ∈ F) : x < w.heap.size := by
  obtain ⟨_, cs, ty, f, e, _⟩ := h.mut x hx
  rcases Nat.lt_or_ge x w.heap.size with h1 | h1
  · exact h1
  · rw [Array.getElem?_eq_none h1] at e; cases e
theorem rep_okay {t : AT} (h : Rep base w seed t) : Okay t.toList := by
  induction t with
  | nil => intro p hp; cases hp
  | node b k v l r ihl ihr =>
    intro p hp
    simp only [AT.toList, List.mem_append, List.mem_cons] at hp
    rcases hp with hp | rfl | hp
    · exact ihl h.2.1 p hp
    · exact h.1.2.1
    · exact ihr h.2.2 p hp
theorem MSt.okay (h : MSt base w mb seed l F) : Okay l := by
  obtain ⟨t, h1, _, rfl, _⟩ := h
  exact rep_okay h1.rep
theorem MSt.sorted (h : MSt base w mb seed l F) : Sorted l := by
  obtain ⟨t, _, h2, rfl, _⟩ := h
  exact h2.sorted
theorem MSt.made {base : Nat} {w : World} {seed : Int} (hb : base ≤ w.heap.size) : MSt base (w.alloc (.cells #[.bool true, .int .u64 seed, .pointer none] 106)) w.heap.size seed [] [w.heap.size] :=
  ⟨.nil, ⟨⟨hb, Blk.new _ _ _⟩, trivial, List.nodup_nil⟩, ⟨List.Pairwise.nil, trivial⟩, rfl, rfl⟩
end

/-- What a change of a map leaves. -/
def Changed (base : Nat) (w : World) (mb : Nat) (seed : Int) (l : PairL) (F : List Nat) (w' : World) : Prop :=
  ∃ F', MSt base w' mb seed l F' ∧ Keep (In F) w w' ∧ ∀ x ∈ F', x ∈ F ∨ w.heap.size ≤ x

theorem MPut_ok {base : Nat} {w : World} {seed : Int} {mb : Nat} {l : PairL} {F : List Nat} {A B : Option Addr} {n c m d : Nat} {key value : List UInt8} (h : MSt base w mb seed l F) (hk : Bytes base w A n key) (hv : Bytes base w B m value)
    (hok : keyOk key value) (hsz : l.length < 100000) (hbase : base ≤ w.heap.size) :
    Calls Try.prog 43 #[.pointer (some ⟨mb, 0, none⟩), .slice A n c, .slice B m d] w fun e w' =>
      e = .returned (.int .i64 0) ∧ Changed base w mb seed (putL l key value) F w' := by
  obtain ⟨t, h1, h2, h3, rfl⟩ := h
  refine (Put_ok h1 hk hv hok (by rw [← toList_length, h3]; exact hsz) hbase).mono ?_
  rintro e w' ⟨nb, hnb, rfl, hm, hkp⟩
  refine ⟨rfl, _, ⟨_, hm, put_wf h2, by rw [put_list h2.sorted h2.heap, h3], rfl⟩, hkp, fun x hx => ?_⟩
  rcases List.mem_cons.1 hx with rfl | hx
  · exact .inl List.mem_cons_self
  · rcases put_mem hx with rfl | hx
    · exact .inr hnb
    · exact .inl (List.mem_cons_of_mem _ hx)

def putAll (l ps : PairL) : PairL := ps.foldl (fun a p => putL a p.1 p.2) l
theorem putAll_succ {l ps : PairL} {k : Nat} (h : k < ps.length) : putAll l (ps.take (k + 1)) = putL (putAll l (ps.take k)) ps[k].1 ps[k].2 := by
  unfold putAll
  rw [List.take_succ_eq_append_getElem h, List.foldl_append]
  rfl
theorem putAll_length (l ps : PairL) : (putAll l ps).length ≤ l.length + ps.length := by
  unfold putAll
  induction ps generalizing l with
  | nil => simp
  | cons p ps ih =>
    have h1 := ih (putL l p.1 p.2)
    have h2 := length_putL l p.1 p.2
    simp only [List.foldl_cons, List.length_cons]
    omega

theorem Changed.refl {base : Nat} {w : World} {mb : Nat} {seed : Int} {l : PairL} {F : List Nat} (h : MSt base w mb seed l F) : Changed base w mb seed l F w := ⟨F, h, Keep.refl _ _, fun _ h => .inl h⟩
theorem Changed.trans {base : Nat} {w w1 w2 : World} {mb : Nat} {seed : Int} {l : PairL} {F F1 : List Nat} (hk : Keep (In F) w w1) (hf : ∀ x ∈ F1, x ∈ F ∨ w.heap.size ≤ x) (h : Changed base w1 mb seed l F1 w2) : Changed base w mb seed l F w2 := by
  obtain ⟨F2, h1, h2, h3⟩ := h
  refine ⟨F2, h1, hk.trans h2 hf, fun x hx => ?_⟩
  rcases h3 x hx with h | h
  · exact hf x h
  · exact .inr (Nat.le_trans hk.size h)
theorem Changed.alloc1 {base : Nat} {w w1 w2 : World} {mb : Nat} {seed : Int} {l : PairL} {F : List Nat} (hk : Keep No w w1) (h : Changed base w1 mb seed l F w2) : Changed base w mb seed l F w2 :=
  Changed.trans (hk.mono (fun _ x => x.elim)) (fun _ h => .inl h) h

set_option maxHeartbeats 2000000 in
set_option maxRecDepth 100000 in
theorem lput_any {base : Nat} {w : World} {seed : Int} {mb : Nat} {l0 l : PairL} {F : List Nat} {L : Option Addr} {m d : Nat} {back : Bool} (h : MSt base w mb seed l0 F) (hl : Pairs base w L m l) (hok : Okay l)
    (hsz : l0.length + l.length ≤ 50000) (hbase : base ≤ w.heap.size) :
    Calls Try.prog 21 #[.pointer (some ⟨mb, 0, none⟩), .slice L m d, .bool back] w fun e w' =>
      e = .returned (.bool true) ∧ Changed base w mb seed (putAll l0 (if back then l.reverse else l)) F w' := by
  obtain rfl := hl.len (by omega)
  obtain ⟨ls, els⟩ : ∃ ls, ls = (if back then l.reverse else l) := ⟨_, rfl⟩
  have hlen : ls.length = l.length := by rw [els]; split <;> simp
  have hget : (back = false → ls = l) ∧ (back = true → ls = l.reverse) := by rw [els]; cases back <;> simp
  rw [← els]
  clear els
  have HG := Lib.hid hget
  have HL := Lib.hid hl
  have HOK := Lib.hid hok
  have HE := Lib.hid hlen
  have HS := Lib.hid (show ∀ k, k ≤ l.length → (putAll l0 (ls.take k)).length < 100000 from fun k hk => by
    have := putAll_length l0 (ls.take k)
    rw [List.length_take, hlen] at this; omega)
  have HM := Lib.hid h.mut
  have h0 := Lib.hid (Changed.refl h)
  clear h hl hok hlen hget
  have hls : l.length ≤ 50000 := by omega
  clear hsz
  go_enter Try.func21, Try.ntmps21
  go_wp2
  go_loopw [7] (fun v7 wr => ∃ k : Nat, k ≤ l.length ∧ v7 = .int .i64 k ∧ Changed base w mb seed (putAll l0 (ls.take k)) F wr) (fun i _ => l.length - (intOf i).toNat)
  case atStart => exact ⟨0, Nat.zero_le _, rfl, h0.out⟩
  case round =>
    clear h0
    obtain ⟨k, hk, rfl, F1, hm1, hk1, hf1⟩ := hrel
    by_cases hlt : k < l.length
    · have hl2 : l.length - 1 - k < l.length := by omega
      have hlw := HL.out.keep hk1 HM.out
      have hs1 := HS.out k hk
      have hb1 := Nat.le_trans hbase hk1.size
      obtain ⟨ad, A1, c1, A2, c2, rfl, him, e0, e1, b1, b2⟩ := hlw.at_ hlt
      obtain ⟨ad', A3, c3, A4, c4, ead, _, g0, g1, b3, b4⟩ := hlw.at_ hl2
      injection ead with ead
      subst ead
      have hlt' : k < ls.length := by rw [HE.out]; exact hlt
      have hget := HG.out
      have hstep := putAll_succ (l := l0) hlt'
      have hHK1 := Lib.hid (show _ ∧ _ from ⟨hk1, hf1⟩)
      have hab := him.lt
      cases back with
      | false =>
        have hq : ls[k] = l[k] := by
          have e := hget.1 rfl
          subst e; rfl
        rw [hq] at hstep
        have hokp := HOK.out _ (List.getElem_mem hlt)
        clear g0 g1 b3 b4 hlw hq hget
        generalize l[k] = p at *
        have H1 := Lib.hid (MPut_ok (A := A1) (B := A2) (c := c1) (d := c2) (hm1.new_ ((Keep.refl No wr).alloc (.cells #[.slice A1 p.1.length c1, .slice A2 p.2.length c2] 82))) (b1.alloc _) (b2.alloc _) hokp hs1 (by simp; omega))
        have hst := Lib.hid hstep
        clear hm1 b1 b2 hokp hs1 hk1 hf1 hl2 hstep him
        go_wp2_with (go_at_call 43; refine H1.out.mono ?_; rintro e w2 ⟨rfl, hch⟩)
        go_roundw
        case rel => exact ⟨k + 1, by omega, by go_num, by rw [hst.out]; exact Changed.trans hHK1.out.1 hHK1.out.2 (Changed.alloc1 ((Keep.refl No wr).alloc _) hch)⟩
        case measure => simp [intOf]; omega
      | true =>
        have hq : ls[k] = l[l.length - 1 - k] := by
          have e := hget.2 rfl
          subst e
          exact List.getElem_reverse _
        rw [hq] at hstep
        have hokp := HOK.out _ (List.getElem_mem hl2)
        have hjw : 0 ≤ ((l.length : Int) - 1 - (k : Int)) := by omega
        have hjv : ((l.length : Int) - 1 - (k : Int)) < (l.length : Int) := by omega
        generalize l[l.length - 1 - k] = p at *
        generalize l[k] = p0 at *
        have g0' := (World.cell?_alloc_lt wr (.cells #[.slice A1 p0.1.length c1, .slice A2 p0.2.length c2] 82) (ad.add ((l.length - 1 - k) * 2)) (by rw [block_of_add]; exact hab)).trans g0
        have g1' := (World.cell?_alloc_lt wr (.cells #[.slice A1 p0.1.length c1, .slice A2 p0.2.length c2] 82) ⟨(ad.add ((l.length - 1 - k) * 2)).block, (ad.add ((l.length - 1 - k) * 2)).off + 1, none⟩ (by show (ad.add ((l.length - 1 - k) * 2)).block < _; rw [block_of_add]; exact hab)).trans g1
        have H1 := Lib.hid (MPut_ok (A := A3) (B := A4) (c := c3) (d := c4) (hm1.new_ ((Keep.refl No wr).alloc (.cells #[.slice A3 p.1.length c3, .slice A4 p.2.length c4] 82))) (b3.alloc _) (b4.alloc _) hokp hs1 (by simp; omega))
        have hst := Lib.hid hstep
        clear hm1 b1 b2 b3 b4 hlw hq hget hokp hs1 hk1 hf1 hl2 hstep him
        go_wp2_with (go_at_call 43; refine H1.out.mono ?_; rintro e w2 ⟨rfl, hch⟩)
        go_roundw
        case rel => exact ⟨k + 1, by omega, by go_num, by rw [hst.out]; exact Changed.trans hHK1.out.1 hHK1.out.2 (Changed.alloc1 ((Keep.refl No wr).alloc _) hch)⟩
        case measure => simp [intOf]; omega
    · have hkl : k = l.length := by omega
      subst hkl
      have hfin := Lib.hid (show Changed base w mb seed (putAll l0 ls) F wr from by
        have : ls.take l.length = ls := List.take_of_length_le (by rw [HE.out]; exact Nat.le_refl _)
        rw [this] at hm1
        exact ⟨F1, hm1, hk1, hf1⟩)
      clear hm1 hk1 hf1
      go_wp2
      go_ret
      exact ⟨rfl, hfin.out⟩

end Go.Proofs.Ytdmckjojeddaaaa
