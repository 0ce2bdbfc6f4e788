/- Contract of the reference's Put. Conditions: the lengths are bounded. -/
import Derived.Test.YtdmckjojeddaaaaR1
namespace Go.Proofs.Ytdmckjojeddaaaa
open Go.RowKit Go.Proofs.YtdmckjojeddaaaaKit Go.Proofs.YtdmckjojeddaaaaPlain

theorem info_pair : (Try.prog.info? 82).map (fun i => (i.zero, i.size, i.bytes)) = some (some (.agg #[.slice none 0 0, .slice none 0 0]), 2, 48) := by kernel_rfl

/-- A row of pairs that the call has made. -/
def OwnP (base : Nat) (w : World) (l : List Pair) (v : Value) (wr : World) : Prop :=
  ∃ xs, wr.ownsRow w.heap.size 82 2 v l.length xs ∧ Flat (PairR base wr) 2 l xs ∧ Keep No w wr
theorem pairs_one {base : Nat} {w : World} {l : List Pair} {xs : List Value} (h : Flat (PairR base w) 2 l xs) : ∀ u ∈ xs, u.oneCell' = true := by
  induction l generalizing xs with
  | nil => rw [show xs = [] from h]; intro u hu; cases hu
  | cons p l ih =>
    obtain ⟨cs, ys, rfl, _, ⟨A, c, B, d, rfl, _⟩, ht⟩ := h
    intro u hu
    rcases List.mem_append.1 hu with hu | hu
    · simp at hu; rcases hu with rfl | rfl <;> rfl
    · exact ih ht u hu
section
variable {base : Nat} {w wr w1 : World} {l l' : List Pair} {v v1 : Value}
theorem OwnP.start (base : Nat) (w : World) : OwnP base w [] (.slice none 0 0) w := ⟨[], World.ownsRow_nil _ _ _ _, Flat.nil, Keep.refl _ _⟩
theorem OwnP.keepTo (h : OwnP base w l v wr) : Keep No w wr := by obtain ⟨_, _, _, h⟩ := h; exact h
theorem OwnP.lt (h : OwnP base w l v wr) : w.heap.size ≤ wr.heap.size := h.keepTo.size
theorem OwnP.later (h : OwnP base w l v wr) (hk : Keep No wr w1) : OwnP base w l v w1 := by
  obtain ⟨xs, h1, h2, h3⟩ := h
  exact ⟨xs, own_keep h1 hk (fun _ _ x => x), h2.mono (fun _ _ hx => hx.keep hk (fun _ x => x.elim)), h3.trans hk (fun _ x => x.elim)⟩
theorem OwnP.alloc (h : OwnP base w l v wr) (o : Obj) : OwnP base w l v (wr.alloc o) := h.later ((Keep.refl _ _).alloc o)
theorem OwnP.drewN (h : OwnP base w l v wr) (n : Nat) : OwnP base w l v (wr.drewN n) := h.later ((Keep.refl _ _).drewN n)
theorem OwnP.push {xs news : List Value} {n : Nat} (hb : base ≤ w.heap.size) (h1 : wr.ownsRow w.heap.size 82 2 v l.length xs) (h2 : Flat (PairR base wr) 2 l xs) (h3 : Keep No w wr)
    (hn : Flat (PairR base wr) 2 l' news) (hl : l'.length = n) (ho : w1.ownsRow w.heap.size 82 2 v1 (l.length + n) (xs ++ news)) (hg : wr.grownBy w1 v.ownBlock) : OwnP base w (l ++ l') v1 w1 := by
  subst hl
  have hk : Keep (fun b => v.ownBlock = some b) wr w1 := (Keep.refl _ wr).grown hg (fun k e => .inl e)
  have hoff : Off base 5 wr (fun b => v.ownBlock = some b) := Off.own h1 hb (by decide)
  refine ⟨xs ++ news, by rw [List.length_append]; exact ho, (h2.append hn).mono (fun _ _ hx => hx.off hk hoff), h3.grown hg (fun k e => .inr (World.ownsRow.lt h1 k e).1)⟩
theorem OwnP.shape (h : OwnP base w l v wr) : ∃ A n c, v = .slice A n c ∧ Hid (n = l.length) ∧ n ≤ c := by
  obtain ⟨xs, h1, _, _⟩ := h
  obtain ⟨A, c, e, hc⟩ := own_slice h1
  exact ⟨A, _, c, e, Lib.hid rfl, hc⟩
theorem OwnP.pairs {A : Option Addr} {n c : Nat} (h : OwnP base w l (.slice A n c) wr) : Pairs base wr A n l := by
  obtain ⟨xs, h1, h2, _⟩ := h
  obtain ⟨A', c', e, hc⟩ := own_slice h1
  injection e with e1 e2 e3
  subst e1 e2 e3
  exact ⟨xs, Reads.of_own h1 rfl, h2⟩
end

/-- One pair in a block of its own. -/
theorem pair_new {base : Nat} {w : World} {A B : Option Addr} {c d : Nat} {k v : List UInt8} (hk : Bytes base w A k.length k) (hv : Bytes base w B v.length v) (hc : k.length ≤ c) (hd : v.length ≤ d) :
    Reads base (w.alloc (.cells #[.slice A k.length c, .slice B v.length d] 82)) 82 2 (some ⟨w.heap.size, 0, none⟩) 1 [.slice A k.length c, .slice B v.length d] ∧
    Flat (PairR base (w.alloc (.cells #[.slice A k.length c, .slice B v.length d] 82))) 2 [(k, v)] [.slice A k.length c, .slice B v.length d] := by
  have hB := Blk.new w 82 #[.slice A k.length c, .slice B v.length d]
  refine ⟨⟨rfl, fun _ => ⟨_, rfl, hB.imm rfl, fun j u hu => ?_⟩⟩, Flat.one ⟨A, c, B, d, rfl, hk.alloc _, hv.alloc _, hc, hd⟩ rfl⟩
  have := hB.cell j
  rw [Addr.add_lit, Nat.zero_add, this]
  simpa using hu

/-- A result that is a row of pairs of the call's own. -/
def PairsRet (base : Nat) (w : World) (l : List Pair) (e : Ending) (w' : World) : Prop := ∃ A c, e = .returned (.slice A l.length c) ∧ l.length ≤ c ∧ OwnP base w l (.slice A l.length c) w'
theorem OwnP.ret {base : Nat} {w wr : World} {l : List Pair} {v : Value} (h : OwnP base w l v wr) : PairsRet base w l (.returned v) wr := by
  obtain ⟨A, n, c, rfl, hn, hc⟩ := h.shape
  obtain rfl := hn.out
  exact ⟨A, c, rfl, hc, h⟩

theorem pairs_cut {base : Nat} {w : World} {L : Option Addr} {m d k : Nat} {l : List Pair} (h : Pairs base w L m l) (hk : k ≤ l.length) (hd : l.length ≤ d) (hm : m = l.length) :
    (∃ ys, Reads base w 82 2 L k ys ∧ Flat (PairR base w) 2 (l.take k) ys) ∧
    (∃ ys, Reads base w 82 2 (if d = k then L else L.map (·.add (k * 2))) (l.length - k) ys ∧ Flat (PairR base w) 2 (l.drop k) ys) := by
  obtain ⟨ys, hr, hf⟩ := h
  subst hm
  exact ⟨⟨_, hr.take hk, hf.take k⟩, ⟨_, hr.cut hk hd, hf.drop k⟩⟩

set_option maxHeartbeats 2000000 in
set_option maxRecDepth 100000 in
theorem rput_any {base : Nat} (L A B : Option Addr) (m d n c p q : Nat) (l : List Pair) (key value : List UInt8) (w : World) (hl : Pairs base w L m l) (hk : Bytes base w A n key) (hv : Bytes base w B p value)
    (hs : Small l) (hn : n ≤ 1000000) (hp : p ≤ 1000000) (hm : m ≤ 100000) (hmd : m ≤ d) (hb : base ≤ w.heap.size) :
    Calls Try.prog 45 #[.slice L m d, .slice A n c, .slice B p q] w (PairsRet base w (putL l key value)) := by
  obtain ⟨i0, hi0, hz0, hz1, hz2⟩ := info_parts info_pair
  have HR := Lib.hid (rrank_any L A m d n c l key w hl hk hs hn (by omega))
  have HH := Lib.hid (fun (w1 : World) hl hk => rhas_any (b1 := base) (b2 := base) L A m d n c l key w1 hl hk hs hn (by omega))
  obtain rfl := hk.len
  obtain rfl := hv.len
  obtain rfl := hl.len (by omega)
  have hrk := rank_le key l
  have HL := Lib.hid hl
  have HK := Lib.hid hk
  have HV := Lib.hid hv
  have HP := Lib.hid (show putL l key value = l.take (rank key l) ++ (key, value) :: l.drop (if hasL key l then rank key l + 1 else rank key l) from rfl)
  have hrk2 : hasL key l = true → rank key l < l.length := hasL_rank
  generalize putL l key value = out at *
  generalize rank key l = r at *
  clear hl hk hv hs
  go_enter Try.func45, Try.ntmps45
  go_wp2_with fail
  refine HR.out.mono ?_
  rintro e w1 ⟨rfl, dq, rfl⟩
  have hd0 := Lib.hid ((Keep.refl No w).drewN dq)
  obtain ⟨ys, hr1, hf1⟩ := (pairs_cut (HL.out.new_ hd0.out) hrk hmd rfl).1
  have hlt1 : (l.take r).length = r := by rw [List.length_take]; omega
  have HT1 := Lib.hid (show _ ∧ _ from ⟨hf1, hlt1⟩)
  have HR1 := Lib.hid hr1
  have p1 := pairs_one hf1
  clear hr1 hf1 hlt1
  go_wp2_with (at_builtin; refine wpList_append_any _ rfl (.tmp 12) (.tmp 15) _ rfl w.heap.size 82 i0 _ 2 48 Try.underlying35 hi0 hz0 hz1 hz2 rfl (by omega) _ 0 [] rfl (World.ownsRow_nil _ _ _ _) base L r d ys rfl HR1.out p1 (by simp only [maxLen]; omega) (by omega) (by have := hd0.out.size; exact this) ?_; intro v2 w2 hown2 hg2 hat2; have O2 := OwnP.push (base := base) (l := []) hb (World.ownsRow_nil _ _ _ _) Flat.nil hd0.out HT1.out.1 HT1.out.2 hown2 hg2; clear hown2 hg2 hat2 HR1 HT1 p1)
  rw [List.nil_append] at O2
  have HO2 := Lib.hid O2
  refine (rcopy_any A _ c key w2 (HK.out.new_ O2.keepTo) hn).mono ?_
  rintro e w3 ⟨Ak, ck, rfl, hck, hok, hkk⟩
  have O3 := HO2.out.later hkk
  have hbk : Bytes base w3 Ak key.length key := Bytes.of_own hok
  have HO3 := Lib.hid (show _ ∧ _ from ⟨O3, hbk⟩)
  clear O2 HO2 O3 hok hkk hbk
  go_wp2_with fail
  refine (rcopy_any B _ q value w3 (HV.out.new_ HO3.out.1.keepTo) hp).mono ?_
  rintro e w4 ⟨Av, cv, rfl, hcv, hov, hkv⟩
  have O4 := HO3.out.1.later hkv
  have hbk := HO3.out.2.new_ hkv
  have hbv : Bytes base w4 Av value.length value := Bytes.of_own hov
  obtain ⟨hrd, hfl⟩ := pair_new hbk hbv hck hcv
  obtain ⟨xs4, ho4, hf4, hk4⟩ := O4.alloc (.cells #[.slice Ak key.length ck, .slice Av value.length cv] 82)
  have H4 := Lib.hid (show _ ∧ _ ∧ _ ∧ _ ∧ _ from ⟨hrd, hfl, ho4, hf4, hk4⟩)
  have l4 : (l.take r).length ≤ 100000 := by rw [List.length_take]; omega
  clear HO3 hov hkv O4 hbk hbv hrd hfl ho4 hf4 hk4
  go_wp2_with (at_builtin; refine wpList_append_any _ rfl (.tmp 17) (.tmp 23) _ rfl w.heap.size 82 i0 _ 2 48 Try.underlying35 hi0 hz0 hz1 hz2 rfl (by omega) _ _ _ rfl H4.out.2.2.1 base _ 1 1 _ rfl H4.out.1 (pairs_one H4.out.2.1) (by simp only [maxLen]; omega) (by omega) H4.out.2.2.2.2.size ?_; intro v5 w5 hown5 hg5 hat5; have O5 := OwnP.push (base := base) hb H4.out.2.2.1 H4.out.2.2.2.1 H4.out.2.2.2.2 H4.out.2.1 rfl hown5 hg5; clear hown5 hg5 hat5 H4)
  have HO5 := Lib.hid O5
  have hk5 := O5.keepTo
  refine (HH.out w5 (HL.out.new_ hk5) (HK.out.new_ hk5)).mono ?_
  rintro e w6 ⟨rfl, dq2, rfl⟩
  have O6 := HO5.out.drewN dq2
  have HO6 := Lib.hid O6
  have l6 : (l.take r ++ [(key, value)]).length ≤ 100001 := by rw [List.length_append, List.length_take]; simp; omega
  clear O5 hk5 HO5 HH O6 HR
  have hfin : ∀ k, (if hasL key l = true then r + 1 else r) = k → k ≤ l.length → Hid (out = (l.take r ++ [(key, value)]) ++ l.drop k) := fun k e _ => by
    have := HP.out
    rw [e] at this
    rw [this]; simp [Hid]
  cases hh : hasL key l with
  | true =>
    have hlt := hrk2 hh
    have hfin2 := hfin (r + 1) (by rw [hh]; rfl) hlt
    obtain ⟨zs, hr7, hf7⟩ := (pairs_cut (k := r + 1) (HL.out.new_ HO6.out.keepTo) hlt hmd rfl).2
    obtain ⟨xs6, ho6, hf6, hk6⟩ := HO6.out
    have H7 := Lib.hid (show _ ∧ _ ∧ _ ∧ _ ∧ _ from ⟨hr7, hf7, ho6, hf6, hk6⟩)
    clear HO6 hr7 hf7 ho6 hf6 hk6 hfin hh hrk2 HP
    go_wp2_with (at_builtin; refine wpList_append_any _ rfl (.tmp 30) (.tmp 33) _ rfl w.heap.size 82 i0 _ 2 48 Try.underlying35 hi0 hz0 hz1 hz2 rfl (by omega) _ _ _ rfl H7.out.2.2.1 base _ _ _ _ rfl H7.out.1 (pairs_one H7.out.2.1) (by simp only [maxLen]; omega) (by omega) H7.out.2.2.2.2.size ?_; intro v8 w8 hown8 hg8 hat8; have O8 := OwnP.push (base := base) hb H7.out.2.2.1 H7.out.2.2.2.1 H7.out.2.2.2.2 H7.out.2.1 (List.length_drop ..) hown8 hg8; clear hown8 hg8 hat8 H7)
    all_goals
      go_ret
      rw [hfin2.out]
      exact O8.ret
  | false =>
    have hfin2 := hfin r (by rw [hh]; rfl) hrk
    obtain ⟨zs, hr7, hf7⟩ := (pairs_cut (k := r) (HL.out.new_ HO6.out.keepTo) hrk hmd rfl).2
    obtain ⟨xs6, ho6, hf6, hk6⟩ := HO6.out
    have H7 := Lib.hid (show _ ∧ _ ∧ _ ∧ _ ∧ _ from ⟨hr7, hf7, ho6, hf6, hk6⟩)
    clear HO6 hr7 hf7 ho6 hf6 hk6 hfin hh hrk2 HP
    go_wp2_with (at_builtin; refine wpList_append_any _ rfl (.tmp 30) (.tmp 33) _ rfl w.heap.size 82 i0 _ 2 48 Try.underlying35 hi0 hz0 hz1 hz2 rfl (by omega) _ _ _ rfl H7.out.2.2.1 base _ _ _ _ rfl H7.out.1 (pairs_one H7.out.2.1) (by simp only [maxLen]; omega) (by omega) H7.out.2.2.2.2.size ?_; intro v8 w8 hown8 hg8 hat8; have O8 := OwnP.push (base := base) hb H7.out.2.2.1 H7.out.2.2.2.1 H7.out.2.2.2.2 H7.out.2.1 (List.length_drop ..) hown8 hg8; clear hown8 hg8 hat8 H7)
    all_goals
      go_ret
      rw [hfin2.out]
      exact O8.ret

end Go.Proofs.Ytdmckjojeddaaaa
