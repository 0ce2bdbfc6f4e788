/- Contract of the reference's Copy. Conditions: the length is at most a million. -/
import Derived.Test.YtdmckjojeddaaaaC5
import Derived.Test.YtdmckjojeddaaaaP1
import Derived.Test.YtdmckjojeddaaaaKit
import Derived.Laws.CopyOwn
namespace Go.Proofs.Ytdmckjojeddaaaa
open Go.RowKit Go.Proofs.YtdmckjojeddaaaaKit Go.Proofs.YtdmckjojeddaaaaPlain

theorem info_size_u8 : (Try.prog.info? 5).map (·.size) = some 1 := by kernel_rfl

theorem _root_.Go.RowKit.Below.keepNo {w w1 : World} (h : Below w.heap.size w w1) : Keep No w w1 := Keep.below h
theorem _root_.Go.Proofs.YtdmckjojeddaaaaKit.Bytes.src {base : Nat} {w : World} {A : Option Addr} {n : Nat} {bs : List UInt8} (h : Bytes base w A n bs) (hp : 0 < (byteVs bs).length) : ∃ ad, A = some ad ∧ ∀ j v, (byteVs bs)[j]? = some v → w.cell? (ad.add j) = some v := by
  obtain ⟨ad, e, _, hc⟩ := h.2 (by have := h.len; rw [byteVs_length] at hp; omega)
  exact ⟨ad, e, hc⟩
theorem made_below {w w1 : World} (hg1 : w.grownBy w1 none) : Below w.heap.size w w1 := ⟨hg1.os, hg1.tape, hg1.output, hg1.size, fun k hk => hg1.block k hk (by simp)⟩
theorem made_facts {w w1 : World} {n : Nat} {e : TypeId} {zs : List Value} (h : w1.ownsRow w.heap.size e 1 (.slice (some ⟨w.heap.size, 0, none⟩) n n) n zs) :
    ∃ cur : List Value, Hid (w1.heap[w.heap.size]? = some (.cells cur.toArray e (0, 0))) ∧ n ≤ maxLen ∧ Hid (cur.length = n) := by
  rcases h.2 with ⟨hv, _⟩ | ⟨g, cap, cur, hv, h2, h3, h4, h5, h6, _⟩
  · cases hv
  · injection hv with hv1 _ hv2
    injection hv1 with hv1
    injection hv1 with hv1
    subst hv1
    subst hv2
    exact ⟨cur.toList, Lib.hid h3, h5, Lib.hid (by simp [h6])⟩
theorem splice_whole (cur cs : List Value) (h : cs.length = cur.length) : splice cur 0 cs = cs := by
  unfold splice
  simp [h]

set_option maxHeartbeats 1000000 in
set_option maxRecDepth 100000 in
theorem rcopy_any {base : Nat} (A : Option Addr) (n c : Nat) (bs : List UInt8) (w : World) (h : Bytes base w A n bs) (hn : n ≤ 1000000) :
    Calls Try.prog 42 #[.slice A n c] w (Cloned w bs) := by
  obtain ⟨i0, hi0, hz0, hz1, hz2⟩ := info_parts info_u8
  obtain rfl := h.len
  have H := Lib.hid h
  clear h
  have HML := Lib.hid (show (byteVs bs).length = Nat.min bs.length bs.length by rw [byteVs_length]; exact (Nat.min_self _).symm)
  go_enter Try.func42, Try.ntmps42
  go_wp2_with (first
    | (at_make; refine wpList_make_full _ rfl _ _ _ rfl w.heap.size 5 i0 _ 1 Try.underlying23 hi0 hz0 hz1 _ _ _ _ bs.length rfl rfl rfl rfl (by rw [hz2]; omega) (by simp only [maxLen]; omega) (Nat.le_refl _) ?_; intro w1 hown1 hg1; obtain ⟨cur, hh, hcm, hcl⟩ := made_facts hown1; have HB := Lib.hid (made_below hg1); have HS := Lib.hid (fun hp => (Bytes.new_ H.out (Keep.below HB.out)).src hp); clear hown1 hg1)
    | (refine wpList_copy_splice (o := ⟨some 9, _, _, _, _, _⟩) rfl (.tmp 7) (.tmp 8) 23 23 rfl 5 Try.underlying23 info_size_u8 (some ⟨w.heap.size, 0, none⟩) A bs.length bs.length bs.length c (by rfl) (by rfl) w.heap.size 0 cur 5 hh.out (byteVs bs) HML.out (fun hp => ⟨rfl, HS.out hp⟩) (by rw [byteVs_length, hcl.out]; omega) (byteVs_one _) w.heap.size w HB.out (Nat.le_refl _) ?_; intro w2 hh2 hb2))
  go_ret
  have hh3 := hh2.out
  rw [splice_whole _ _ (by rw [byteVs_length, hcl.out])] at hh3
  exact ⟨some ⟨w.heap.size, 0, none⟩, bs.length, rfl, Nat.le_refl _, ⟨by simp [byteVs_length], .inr ⟨w.heap.size, bs.length, _, rfl, Nat.le_refl _, hh3, Nat.le_refl _, hcm, by simp [byteVs_length], by simp only [Nat.mul_one]; exact List.take_of_length_le (by rw [byteVs_length]; exact Nat.le_refl _)⟩⟩, Keep.below hb2⟩

end Go.Proofs.Ytdmckjojeddaaaa

namespace Go.Proofs.Ytdmckjojeddaaaa
open Go.RowKit Go.Proofs.YtdmckjojeddaaaaKit Go.Proofs.YtdmckjojeddaaaaPlain

/-- All lengths are those that statements hand in. -/
def Small (l : List Pair) : Prop := ∀ p ∈ l, p.1.length ≤ 1000000 ∧ p.2.length ≤ 1000000

set_option maxHeartbeats 1000000 in
set_option maxRecDepth 100000 in
theorem rrank_any {b1 b2 : Nat} (L A : Option Addr) (m d n c : Nat) (l : List Pair) (key : List UInt8) (w : World) (hl : Pairs b1 w L m l) (hk : Bytes b2 w A n key) (hs : Small l) (hn : n ≤ 1000000) (hm : m ≤ 1000000) :
    Calls Try.prog 47 #[.slice L m d, .slice A n c] w fun e w' => e = .returned (.int .i64 (rank key l : Nat)) ∧ Drawn w w' := by
  obtain rfl := hk.len
  obtain rfl := hl.len (by omega)
  have HL := Lib.hid hl
  have HK := Lib.hid hk
  have HS := Lib.hid hs
  clear hl hk hs
  go_enter Try.func47, Try.ntmps47
  go_wp2
  go_loopw [5] (fun v5 wr => ∃ k : Nat, k ≤ l.length ∧ v5 = .int .i64 k ∧ Hid (rank key l = k + rank key (l.drop k)) ∧ Drawn w wr) (fun i _ => l.length - (intOf i).toNat)
  case atStart => exact ⟨0, Nat.zero_le _, rfl, Lib.hid (by simp), Drawn.refl _⟩
  case round =>
    obtain ⟨k, hk, rfl, he, q, rfl⟩ := hrel
    by_cases hlt : k < l.length
    · obtain ⟨ad, A1, c1, A2, c2, rfl, him, e0, e1, b1', b2'⟩ := HL.out.at_ hlt
      have hsk := (HS.out _ (List.getElem_mem hlt)).1
      have hst := Lib.hid (rank_at hlt he.out)
      generalize l[k] = p at *
      have HC := Lib.hid (rcompare_any A1 A _ c1 _ c p.1 key (w.drewN q) (b1'.drewN q) (HK.out.drewN q) (by omega) (by omega))
      clear him b1' b2' e1 he
      by_cases ho : Lt p.1 key
      · have hst2 := Lib.hid (hst.out.trans (if_pos ho))
        have hneg := rcmp_neg.2 ho
        clear ho hst
        go_wp2_with (go_at_call 24; refine HC.out.mono ?_; rintro e w' ⟨rfl, q2, rfl⟩)
        go_roundw
        case rel => exact ⟨k + 1, by omega, by go_num, hst2, (Drawn.refl w).step _⟩
        case measure => simp [intOf]; omega
      · have hst2 := Lib.hid (hst.out.trans (if_neg ho))
        have hneg := mt rcmp_neg.1 ho
        clear ho hst
        go_wp2_with (go_at_call 24; refine HC.out.mono ?_; rintro e w' ⟨rfl, q2, rfl⟩)
        go_ret
        exact ⟨by rw [hst2.out]; rfl, (Drawn.refl w).step _⟩
    · have hst2 := Lib.hid (rank_end (Nat.le_of_not_lt hlt) he.out)
      go_wp2
      go_ret
      exact ⟨by rw [hst2.out]; rfl, (Drawn.refl w).step _⟩

set_option maxHeartbeats 1000000 in
set_option maxRecDepth 100000 in
theorem rhas_any {b1 b2 : Nat} (L A : Option Addr) (m d n c : Nat) (l : List Pair) (key : List UInt8) (w : World) (hl : Pairs b1 w L m l) (hk : Bytes b2 w A n key) (hs : Small l) (hn : n ≤ 1000000) (hm : m ≤ 1000000) :
    Calls Try.prog 51 #[.slice L m d, .slice A n c] w fun e w' => e = .returned (.bool (hasL key l)) ∧ Drawn w w' := by
  have HR := Lib.hid (rrank_any L A m d n c l key w hl hk hs hn hm)
  obtain rfl := hk.len
  obtain rfl := hl.len (by omega)
  by_cases hlt : rank key l < l.length
  · obtain ⟨ad, A1, c1, A2, c2, rfl, him, e0, e1, b1', b2'⟩ := hl.at_ hlt
    have hsk := (hs _ (List.getElem_mem hlt)).1
    have hh := Lib.hid (hasL_lt hlt)
    generalize l[rank key l] = p at *
    have HC := Lib.hid (fun q => rcompare_any A1 A _ c1 _ c p.1 key (w.drewN q) (b1'.drewN q) (hk.drewN q) (by omega) (by omega))
    generalize rank key l = r at *
    clear him b1' b2' e1 hl hk hs
    go_enter Try.func51, Try.ntmps51
    go_wp2_with (first
      | (go_at_call 47; refine HR.out.mono ?_; rintro e w' ⟨rfl, q, rfl⟩)
      | (go_at_call 24; refine (HC.out _).mono ?_; rintro e w' ⟨rfl, q2, rfl⟩))
    go_ret
    refine ⟨ret_bool ?_, (Drawn.refl w).step _⟩
    rw [hh.out, Bool.eq_iff_iff]; simp [rcmp_eq]
  · have hh := Lib.hid (hasL_ge (Nat.le_of_not_lt hlt))
    generalize rank key l = r at *
    clear hl hk hs
    go_enter Try.func51, Try.ntmps51
    go_wp2_with (go_at_call 47; refine HR.out.mono ?_; rintro e w' ⟨rfl, q, rfl⟩)
    go_ret
    exact ⟨ret_bool (by rw [hh.out]), (Drawn.refl w).step _⟩

end Go.Proofs.Ytdmckjojeddaaaa

namespace Go.Proofs.Ytdmckjojeddaaaa
open Go.RowKit Go.Proofs.YtdmckjojeddaaaaKit Go.Proofs.YtdmckjojeddaaaaPlain

theorem info_pair : (Try.prog.info? 82).map (fun i => (i.zero, i.size, i.bytes)) = some (some (.agg #[.slice none 0 0, .slice none 0 0]), 2, 48) := by kernel_rfl

/-- A row of pairs that the call has made. -/
def OwnP (base : Nat) (w : World) (l : List Pair) (v : Value) (wr : World) : Prop :=
  ∃ xs, wr.ownsRow w.heap.size 82 2 v l.length xs ∧ Flat (PairR base wr) 2 l xs ∧ Keep No w wr
theorem pairs_one {base : Nat} {w : World} {l : List Pair} {xs : List Value} (h : Flat (PairR base w) 2 l xs) : ∀ u ∈ xs, u.oneCell' = true := by
  induction l generalizing xs with
  | nil => rw [show xs = [] from h]; intro u hu; cases hu
  | cons p l ih =>
    obtain ⟨cs, ys, rfl, _, ⟨A, c, B, d, rfl, _⟩, ht⟩ := h
    intro u hu
    rcases List.mem_append.1 hu with hu | hu
    · simp at hu; rcases hu with rfl | rfl <;> rfl
    · exact ih ht u hu
section
variable {base : Nat} {w wr w1 : World} {l l' : List Pair} {v v1 : Value}
theorem OwnP.start (base : Nat) (w : World) : OwnP base w [] (.slice none 0 0) w := ⟨[], World.ownsRow_nil _ _ _ _, Flat.nil, Keep.refl _ _⟩
theorem OwnP.keepTo (h : OwnP base w l v wr) : Keep No w wr := by obtain ⟨_, _, _, h⟩ := h; exact h
theorem OwnP.lt (h : OwnP base w l v wr) : w.heap.size ≤ wr.heap.size := h.keepTo.size
theorem OwnP.later (h : OwnP base w l v wr) (hk : Keep No wr w1) : OwnP base w l v w1 := by
  obtain ⟨xs, h1, h2, h3⟩ := h
  exact ⟨xs, own_keep h1 hk (fun _ _ x => x), h2.mono (fun _ _ hx => hx.keep hk (fun _ x => x.elim)), h3.trans hk (fun _ x => x.elim)⟩
theorem OwnP.alloc (h : OwnP base w l v wr) (o : Obj) : OwnP base w l v (wr.alloc o) := h.later ((Keep.refl _ _).alloc o)
theorem OwnP.drewN (h : OwnP base w l v wr) (n : Nat) : OwnP base w l v (wr.drewN n) := h.later ((Keep.refl _ _).drewN n)
theorem OwnP.push {xs news : List Value} {n : Nat} (hb : base ≤ w.heap.size) (h1 : wr.ownsRow w.heap.size 82 2 v l.length xs) (h2 : Flat (PairR base wr) 2 l xs) (h3 : Keep No w wr)
    (hn : Flat (PairR base wr) 2 l' news) (hl : l'.length = n) (ho : w1.ownsRow w.heap.size 82 2 v1 (l.length + n) (xs ++ news)) (hg : wr.grownBy w1 v.ownBlock) : OwnP base w (l ++ l') v1 w1 := by
  subst hl
  have hk : Keep (fun b => v.ownBlock = some b) wr w1 := (Keep.refl _ wr).grown hg (fun k e => .inl e)
  have hoff : Off base 5 wr (fun b => v.ownBlock = some b) := Off.own h1 hb (by decide)
  refine ⟨xs ++ news, by rw [List.length_append]; exact ho, (h2.append hn).mono (fun _ _ hx => hx.off hk hoff), h3.grown hg (fun k e => .inr (World.ownsRow.lt h1 k e).1)⟩
theorem OwnP.shape (h : OwnP base w l v wr) : ∃ A n c, v = .slice A n c ∧ Hid (n = l.length) ∧ n ≤ c := by
  obtain ⟨xs, h1, _, _⟩ := h
  obtain ⟨A, c, e, hc⟩ := own_slice h1
  exact ⟨A, _, c, e, Lib.hid rfl, hc⟩
theorem OwnP.pairs {A : Option Addr} {n c : Nat} (h : OwnP base w l (.slice A n c) wr) : Pairs base wr A n l := by
  obtain ⟨xs, h1, h2, _⟩ := h
  obtain ⟨A', c', e, hc⟩ := own_slice h1
  injection e with e1 e2 e3
  subst e1 e2 e3
  exact ⟨xs, Reads.of_own h1 rfl, h2⟩
end

/-- One pair in a block of its own. -/
theorem pair_new {base : Nat} {w : World} {A B : Option Addr} {c d : Nat} {k v : List UInt8} (hk : Bytes base w A k.length k) (hv : Bytes base w B v.length v) (hc : k.length ≤ c) (hd : v.length ≤ d) :
    Reads base (w.alloc (.cells #[.slice A k.length c, .slice B v.length d] 82)) 82 2 (some ⟨w.heap.size, 0, none⟩) 1 [.slice A k.length c, .slice B v.length d] ∧
    Flat (PairR base (w.alloc (.cells #[.slice A k.length c, .slice B v.length d] 82))) 2 [(k, v)] [.slice A k.length c, .slice B v.length d] := by
  have hB := Blk.new w 82 #[.slice A k.length c, .slice B v.length d]
  refine ⟨⟨rfl, fun _ => ⟨_, rfl, hB.imm rfl, fun j u hu => ?_⟩⟩, Flat.one ⟨A, c, B, d, rfl, hk.alloc _, hv.alloc _, hc, hd⟩ rfl⟩
  have := hB.cell j
  rw [Addr.add_lit, Nat.zero_add, this]
  simpa using hu

/-- A result that is a row of pairs of the call's own. -/
def PairsRet (base : Nat) (w : World) (l : List Pair) (e : Ending) (w' : World) : Prop := ∃ A c, e = .returned (.slice A l.length c) ∧ l.length ≤ c ∧ OwnP base w l (.slice A l.length c) w'
theorem OwnP.ret {base : Nat} {w wr : World} {l : List Pair} {v : Value} (h : OwnP base w l v wr) : PairsRet base w l (.returned v) wr := by
  obtain ⟨A, n, c, rfl, hn, hc⟩ := h.shape
  obtain rfl := hn.out
  exact ⟨A, c, rfl, hc, h⟩

theorem pairs_cut {base : Nat} {w : World} {L : Option Addr} {m d k : Nat} {l : List Pair} (h : Pairs base w L m l) (hk : k ≤ l.length) (hd : l.length ≤ d) (hm : m = l.length) :
    (∃ ys, Reads base w 82 2 L k ys ∧ Flat (PairR base w) 2 (l.take k) ys) ∧
    (∃ ys, Reads base w 82 2 (if d = k then L else L.map (·.add (k * 2))) (l.length - k) ys ∧ Flat (PairR base w) 2 (l.drop k) ys) := by
  obtain ⟨ys, hr, hf⟩ := h
  subst hm
  exact ⟨⟨_, hr.take hk, hf.take k⟩, ⟨_, hr.cut hk hd, hf.drop k⟩⟩

set_option maxHeartbeats 2000000 in
set_option maxRecDepth 100000 in
theorem rput_any {base : Nat} (L A B : Option Addr) (m d n c p q : Nat) (l : List Pair) (key value : List UInt8) (w : World) (hl : Pairs base w L m l) (hk : Bytes base w A n key) (hv : Bytes base w B p value)
    (hs : Small l) (hn : n ≤ 1000000) (hp : p ≤ 1000000) (hm : m ≤ 100000) (hmd : m ≤ d) (hb : base ≤ w.heap.size) :
    Calls Try.prog 45 #[.slice L m d, .slice A n c, .slice B p q] w (PairsRet base w (putL l key value)) := by
  obtain ⟨i0, hi0, hz0, hz1, hz2⟩ := info_parts info_pair
  have HR := Lib.hid (rrank_any L A m d n c l key w hl hk hs hn (by omega))
  have HH := Lib.hid (fun (w1 : World) hl hk => rhas_any (b1 := base) (b2 := base) L A m d n c l key w1 hl hk hs hn (by omega))
  obtain rfl := hk.len
  obtain rfl := hv.len
  obtain rfl := hl.len (by omega)
  have hrk := rank_le key l
  have HL := Lib.hid hl
  have HK := Lib.hid hk
  have HV := Lib.hid hv
  have HP := Lib.hid (show putL l key value = l.take (rank key l) ++ (key, value) :: l.drop (if hasL key l then rank key l + 1 else rank key l) from rfl)
  have hrk2 : hasL key l = true → rank key l < l.length := hasL_rank
  generalize putL l key value = out at *
  generalize rank key l = r at *
  clear hl hk hv hs
  go_enter Try.func45, Try.ntmps45
  go_wp2_with fail
  refine HR.out.mono ?_
  rintro e w1 ⟨rfl, dq, rfl⟩
  have hd0 := Lib.hid ((Keep.refl No w).drewN dq)
  obtain ⟨ys, hr1, hf1⟩ := (pairs_cut (HL.out.new_ hd0.out) hrk hmd rfl).1
  have hlt1 : (l.take r).length = r := by rw [List.length_take]; omega
  have HT1 := Lib.hid (show _ ∧ _ from ⟨hf1, hlt1⟩)
  have HR1 := Lib.hid hr1
  have p1 := pairs_one hf1
  clear hr1 hf1 hlt1
  go_wp2_with (at_builtin; refine wpList_append_any _ rfl (.tmp 12) (.tmp 15) _ rfl w.heap.size 82 i0 _ 2 48 Try.underlying35 hi0 hz0 hz1 hz2 rfl (by omega) _ 0 [] rfl (World.ownsRow_nil _ _ _ _) base L r d ys rfl HR1.out p1 (by simp only [maxLen]; omega) (by omega) (by have := hd0.out.size; exact this) ?_; intro v2 w2 hown2 hg2 hat2; have O2 := OwnP.push (base := base) (l := []) hb (World.ownsRow_nil _ _ _ _) Flat.nil hd0.out HT1.out.1 HT1.out.2 hown2 hg2; clear hown2 hg2 hat2 HR1 HT1 p1)
  rw [List.nil_append] at O2
  have HO2 := Lib.hid O2
  refine (rcopy_any A _ c key w2 (HK.out.new_ O2.keepTo) hn).mono ?_
  rintro e w3 ⟨Ak, ck, rfl, hck, hok, hkk⟩
  have O3 := HO2.out.later hkk
  have hbk : Bytes base w3 Ak key.length key := Bytes.of_own hok
  have HO3 := Lib.hid (show _ ∧ _ from ⟨O3, hbk⟩)
  clear O2 HO2 O3 hok hkk hbk
  go_wp2_with fail
  refine (rcopy_any B _ q value w3 (HV.out.new_ HO3.out.1.keepTo) hp).mono ?_
  rintro e w4 ⟨Av, cv, rfl, hcv, hov, hkv⟩
  have O4 := HO3.out.1.later hkv
  have hbk := HO3.out.2.new_ hkv
  have hbv : Bytes base w4 Av value.length value := Bytes.of_own hov
  obtain ⟨hrd, hfl⟩ := pair_new hbk hbv hck hcv
  obtain ⟨xs4, ho4, hf4, hk4⟩ := O4.alloc (.cells #[.slice Ak key.length ck, .slice Av value.length cv] 82)
  have H4 := Lib.hid (show _ ∧ _ ∧ _ ∧ _ ∧ _ from ⟨hrd, hfl, ho4, hf4, hk4⟩)
  have l4 : (l.take r).length ≤ 100000 := by rw [List.length_take]; omega
  clear HO3 hov hkv O4 hbk hbv hrd hfl ho4 hf4 hk4
  go_wp2_with (at_builtin; refine wpList_append_any _ rfl (.tmp 17) (.tmp 23) _ rfl w.heap.size 82 i0 _ 2 48 Try.underlying35 hi0 hz0 hz1 hz2 rfl (by omega) _ _ _ rfl H4.out.2.2.1 base _ 1 1 _ rfl H4.out.1 (pairs_one H4.out.2.1) (by simp only [maxLen]; omega) (by omega) H4.out.2.2.2.2.size ?_; intro v5 w5 hown5 hg5 hat5; have O5 := OwnP.push (base := base) hb H4.out.2.2.1 H4.out.2.2.2.1 H4.out.2.2.2.2 H4.out.2.1 rfl hown5 hg5; clear hown5 hg5 hat5 H4)
  have HO5 := Lib.hid O5
  have hk5 := O5.keepTo
  refine (HH.out w5 (HL.out.new_ hk5) (HK.out.new_ hk5)).mono ?_
  rintro e w6 ⟨rfl, dq2, rfl⟩
  have O6 := HO5.out.drewN dq2
  have HO6 := Lib.hid O6
  have l6 : (l.take r ++ [(key, value)]).length ≤ 100001 := by rw [List.length_append, List.length_take]; simp; omega
  clear O5 hk5 HO5 HH O6 HR
  have hfin : ∀ k, (if hasL key l = true then r + 1 else r) = k → k ≤ l.length → Hid (out = (l.take r ++ [(key, value)]) ++ l.drop k) := fun k e _ => by
    have := HP.out
    rw [e] at this
    rw [this]; simp [Hid]
  cases hh : hasL key l with
  | true =>
    have hlt := hrk2 hh
    have hfin2 := hfin (r + 1) (by rw [hh]; rfl) hlt
    obtain ⟨zs, hr7, hf7⟩ := (pairs_cut (k := r + 1) (HL.out.new_ HO6.out.keepTo) hlt hmd rfl).2
    obtain ⟨xs6, ho6, hf6, hk6⟩ := HO6.out
    have H7 := Lib.hid (show _ ∧ _ ∧ _ ∧ _ ∧ _ from ⟨hr7, hf7, ho6, hf6, hk6⟩)
    clear HO6 hr7 hf7 ho6 hf6 hk6 hfin hh hrk2 HP
    go_wp2_with (at_builtin; refine wpList_append_any _ rfl (.tmp 30) (.tmp 33) _ rfl w.heap.size 82 i0 _ 2 48 Try.underlying35 hi0 hz0 hz1 hz2 rfl (by omega) _ _ _ rfl H7.out.2.2.1 base _ _ _ _ rfl H7.out.1 (pairs_one H7.out.2.1) (by simp only [maxLen]; omega) (by omega) H7.out.2.2.2.2.size ?_; intro v8 w8 hown8 hg8 hat8; have O8 := OwnP.push (base := base) hb H7.out.2.2.1 H7.out.2.2.2.1 H7.out.2.2.2.2 H7.out.2.1 (List.length_drop ..) hown8 hg8; clear hown8 hg8 hat8 H7)
    all_goals
      go_ret
      rw [hfin2.out]
      exact O8.ret
  | false =>
    have hfin2 := hfin r (by rw [hh]; rfl) hrk
    obtain ⟨zs, hr7, hf7⟩ := (pairs_cut (k := r) (HL.out.new_ HO6.out.keepTo) hrk hmd rfl).2
    obtain ⟨xs6, ho6, hf6, hk6⟩ := HO6.out
    have H7 := Lib.hid (show _ ∧ _ ∧ _ ∧ _ ∧ _ from ⟨hr7, hf7, ho6, hf6, hk6⟩)
    clear HO6 hr7 hf7 ho6 hf6 hk6 hfin hh hrk2 HP
    go_wp2_with (at_builtin; refine wpList_append_any _ rfl (.tmp 30) (.tmp 33) _ rfl w.heap.size 82 i0 _ 2 48 Try.underlying35 hi0 hz0 hz1 hz2 rfl (by omega) _ _ _ rfl H7.out.2.2.1 base _ _ _ _ rfl H7.out.1 (pairs_one H7.out.2.1) (by simp only [maxLen]; omega) (by omega) H7.out.2.2.2.2.size ?_; intro v8 w8 hown8 hg8 hat8; have O8 := OwnP.push (base := base) hb H7.out.2.2.1 H7.out.2.2.2.1 H7.out.2.2.2.2 H7.out.2.1 (List.length_drop ..) hown8 hg8; clear hown8 hg8 hat8 H7)
    all_goals
      go_ret
      rw [hfin2.out]
      exact O8.ret

end Go.Proofs.Ytdmckjojeddaaaa
