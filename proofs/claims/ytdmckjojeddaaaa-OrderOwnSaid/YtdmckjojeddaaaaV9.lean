/- Contract of the reference's Image. Conditions: the lengths are bounded. -/
import Derived.Test.YtdmckjojeddaaaaV7
import Derived.Test.YtdmckjojeddaaaaR6
import Derived.Deep.RegionHeld3
namespace Go.Proofs.Ytdmckjojeddaaaa
open Go.RowKit Go.Proofs.YtdmckjojeddaaaaKit Go.Proofs.YtdmckjojeddaaaaPlain

/-! ### A greater base -/
section
variable {base base' e k size n : Nat} {w : World} {A : Option Addr} {xs : List Value} {bs : List UInt8}
theorem _root_.Go.Proofs.YtdmckjojeddaaaaKit.Imm.up (h : Imm base e w k) (hb : base ≤ base') : Imm base' e w k := ⟨h.1, h.2.1, h.2.2.imp (fun h => Nat.lt_of_lt_of_le h hb) id⟩
theorem _root_.Go.Proofs.YtdmckjojeddaaaaKit.Reads.up (h : Reads base w e size A n xs) (hb : base ≤ base') : Reads base' w e size A n xs := ⟨h.1, fun hn => by
  obtain ⟨ad, e1, e2, e3⟩ := h.2 hn
  exact ⟨ad, e1, e2.up hb, e3⟩⟩
theorem _root_.Go.Proofs.YtdmckjojeddaaaaKit.Bytes.up (h : Bytes base w A n bs) (hb : base ≤ base') : Bytes base' w A n bs := Reads.up h hb
theorem pairs_up {l : List Pair} (h : Pairs base w A n l) (hb : base ≤ base') : Pairs base' w A n l := by
  obtain ⟨xs, hr, hf⟩ := h
  refine ⟨xs, hr.up hb, hf.mono fun p cs hx => ?_⟩
  obtain ⟨A, c, B, d, e, h1, h2, h3⟩ := hx
  exact ⟨A, c, B, d, e, h1.up hb, h2.up hb, h3⟩
end

/-! ### What lies from lo on is as it was -/
theorem BytesAt.keepHi {lo n : Nat} {w w' : World} {A : Option Addr} {bs : List UInt8} (h : BytesAt lo w A n bs) (hk : Keep (fun b => b < lo) w w') : BytesAt lo w' A n bs :=
  ⟨⟨h.1.1, fun hn => by
    obtain ⟨ad, e, hb, hc⟩ := h.1.2 hn
    have hlo := h.2.1 ad e
    have hne : ¬ (fun b => b < lo) ad.block := Nat.not_lt.2 hlo
    exact ⟨ad, e, hb.same (hk.block _ hb.lt hne) hk.size, fun j u hu => (hk.cell (p := ad.add j) (by rw [block_of_add]; exact hb.lt) (by rw [block_of_add]; exact hne)).trans (hc j u hu)⟩⟩, h.2.1, fun hn => by
    obtain ⟨g, cs, e, hg, hb, hc⟩ := h.2.2 hn
    exact ⟨g, cs, e, hg, hb.keep hk (Nat.not_lt.2 hg), hc⟩⟩
theorem NodeR.keepHi {lo : Nat} {w w' : World} {x : NodeV} {cs : List Value} (h : NodeR lo w x cs) (hk : Keep (fun b => b < lo) w w') : NodeR lo w' x cs := by
  obtain ⟨A, c, B, d, e, h1, h2, h3⟩ := h
  exact ⟨A, c, B, d, e, h1.keepHi hk, h2.keepHi hk, h3⟩
theorem ownN_keepHi {lo : Nat} {w w' : World} {l : List NodeV} {v : Value} (h : OwnN lo lo l v w) (hk : Keep (fun b => b < lo) w w') : OwnN lo lo l v w' := by
  obtain ⟨xs, h1, h2⟩ := h
  exact ⟨xs, own_keep h1 hk (fun k e => Nat.not_lt.2 (World.ownsRow.lt h1 k e).1), h2.mono (fun _ _ hx => hx.keepHi hk)⟩

theorem ownN_at {lo : Nat} {W : World} {A : Option Addr} {n c : Nat} {L : List NodeV} (h : OwnN lo lo L (.slice A n c) W) {k : Nat} {x : NodeV} (hk : L[k]? = some x) : ∃ ad A1 c1 A2 c2, A = some ad ∧ lo ≤ ad.block ∧ ad.block < W.heap.size ∧
    W.cell? (ad.add (k * 6)) = some (.slice A1 x.key.length c1) ∧ W.cell? ⟨(ad.add (k * 6)).block, (ad.add (k * 6)).off + 1, none⟩ = some (.slice A2 x.value.length c2) ∧
    W.cell? ⟨(ad.add (k * 6)).block, (ad.add (k * 6)).off + 4, none⟩ = some (.int .i64 x.left) ∧ W.cell? ⟨(ad.add (k * 6)).block, (ad.add (k * 6)).off + 5, none⟩ = some (.int .i64 x.right) ∧
    BytesAt lo W A1 x.key.length x.key ∧ BytesAt lo W A2 x.value.length x.value := by
  obtain ⟨xs, h1, h2⟩ := h
  have hlt := (List.getElem?_eq_some_iff.1 hk).1
  obtain ⟨g, cap, hv, hge, hgl⟩ := World.ownsRow.form h1 (by omega)
  injection hv with hv1 hv2 hv3
  subst hv1
  obtain ⟨cs, ⟨A1, c1, A2, c2, rfl, b1, b2, _⟩, _, hg⟩ := h2.get hk
  have hc : ∀ j u, ([.slice A1 x.key.length c1, .slice A2 x.value.length c2, .int .u64 x.digest, .int .i64 (x.size : Nat), .int .i64 x.left, .int .i64 x.right] : List Value)[j]? = some u → W.cell? ((⟨g, 0, none⟩ : Addr).add (k * 6 + j)) = some u := fun j u hu => h1.cells (g := g) rfl _ u (hg j u hu)
  refine ⟨_, A1, c1, A2, c2, rfl, hge, hgl, hc 0 _ rfl, ?_, ?_, ?_, b1, b2⟩
  · rw [add_field _ _ 1 (by omega)]; exact hc 1 _ rfl
  · rw [add_field _ _ 4 (by omega)]; exact hc 4 _ rfl
  · rw [add_field _ _ 5 (by omega)]; exact hc 5 _ rfl

/-- Between two rounds: the bytes so far; what was laid between w1 and w2 is as it was. -/
structure IS (w w1 w2 : World) (ys : List UInt8) (v : Value) (wr : World) : Prop where
  own : Own w ys v wr
  hi : Keep (fun b => b < w1.heap.size) w2 wr
  from_ : ∀ kk, v.ownBlock = some kk → kk < w1.heap.size ∨ w2.heap.size ≤ kk
section
variable {w w1 w2 wr W W' : World} {ys zs : List UInt8} {v v1 : Value} {n : Nat}
theorem IS.new_ (h : IS w w1 w2 ys v wr) (hk : Keep No wr W) : IS w w1 w2 ys v W := ⟨h.own.new_ hk, h.hi.trans hk (fun _ x => x.elim), h.from_⟩
theorem IS.push (h : IS w w1 w2 ys v W) (hown : W'.ownsRow w.heap.size 5 1 v1 (ys.length + n) (byteVs ys ++ byteVs zs)) (hl : zs.length = n) (hg : W.grownBy W' v.ownBlock) (hat : v1.ownBlock = v.ownBlock ∨ v1.ownBlock = some W.heap.size) : IS w w1 w2 (ys ++ zs) v1 W' := by
  refine ⟨h.own.push hown hl hg, h.hi.grown hg (fun k e => h.from_ k e), fun kk e => ?_⟩
  rcases hat with e1 | e1
  · exact h.from_ kk (e1 ▸ e)
  · rw [e1] at e
    injection e with e
    exact .inr (e ▸ h.hi.size)
end
theorem flat_take {α : Type} {f : α → List UInt8} {l : List α} {k : Nat} {x : α} (h : l[k]? = some x) : ((l.take (k + 1)).map f).flatten = ((l.take k).map f).flatten ++ f x := by
  have hk := (List.getElem?_eq_some_iff.1 h).1
  have e := (List.getElem?_eq_some_iff.1 h).2
  rw [List.take_succ_eq_append_getElem hk, List.map_append, List.flatten_append, e]
  simp
theorem nodesL_okay {seed : Int} {l : PairL} (h : Okay l) : ∀ x ∈ nodesL seed l, keyOk x.key x.value := by
  unfold nodesL
  generalize hn : l.length = n
  suffices H : ∀ n (l : PairL), l.length = n → Okay l → ∀ i, ∀ x ∈ (build seed l).nodes seed i, keyOk x.key x.value from H n l hn h 0
  clear hn h
  intro n
  induction n using Nat.strongRecOn with
  | ind n ih =>
    intro l hl h i x hx
    cases hp : l[top seed l]? with
    | none =>
      have hnil : l = [] := by
        cases l with
        | nil => rfl
        | cons p l => exact absurd (top_lt (seed := seed) (l := p :: l) (by simp)) (by rw [List.getElem?_eq_none_iff] at hp; omega)
      subst hnil
      cases hx
    | some p =>
      have hlt := (List.getElem?_eq_some_iff.1 hp).1
      rw [build_cons hp] at hx
      simp only [PT.nodes, List.mem_cons, List.mem_append] at hx
      rcases hx with rfl | hx | hx
      · exact h p (List.mem_of_getElem? hp)
      · exact ih _ (by rw [List.length_take]; omega) _ rfl (fun q hq => h q (List.mem_of_mem_take hq)) _ x hx
      · exact ih _ (by rw [List.length_drop]; omega) _ rfl (fun q hq => h q (List.mem_of_mem_drop hq)) _ x hx
theorem image_le {N : List NodeV} (h : ∀ x ∈ N, keyOk x.key x.value) (k : Nat) : ((N.take k).map nodeImage).flatten.length ≤ 2000 * N.length := by
  have h1 : ∀ x ∈ (N.take k).map nodeImage, x.length ≤ 2000 := fun x hx => by
    obtain ⟨y, hy, rfl⟩ := List.mem_map.1 hx
    obtain ⟨a, b, c⟩ := h y (List.mem_of_mem_take hy)
    simp only [nodeImage, imageL1, List.length_cons, told_length]
    omega
  have h2 := flatten_le h1
  rw [List.length_map, List.length_take] at h2
  have : 2000 * min k N.length ≤ 2000 * N.length := Nat.mul_le_mul_left _ (Nat.min_le_right _ _)
  omega

set_option maxHeartbeats 4000000 in
set_option maxRecDepth 100000 in
theorem rimage_any {base : Nat} {w : World} {seed : Int} {Lp : Option Addr} {m d : Nat} {l : PairL} (hl : Pairs base w Lp m l) (hmd : m ≤ d) (hok : Okay l) (hsz : l.length ≤ 50000) (hb : base ≤ w.heap.size) :
    Calls Try.prog 57 #[.int .u64 seed, .slice Lp m d] w (OwnRet w (imageL seed l)) := by
  obtain ⟨i0, hi0, hz0, hz1, hz2⟩ := info_parts info_u8
  obtain rfl := hl.len (by omega)
  have hwc : IntKind.u64.wrap ((l.length : Nat) : Int) = ((l.length : Nat) : Int) := wrap_u64_fit (by omega) (by omega)
  have HN := Lib.hid (fun (W : World) (h : Keep No w W) => rnodes_any (base := W.heap.size) (seed := seed) (d := d) (pairs_up (hl.new_ h) (Nat.le_trans hb h.size)) hmd hok hsz (Nat.le_refl _))
  have HOK := Lib.hid (nodesL_okay (seed := seed) hok)
  have hNl := nodesL_length seed l
  have hN0 : l.length ≤ 50000 := hsz
  unfold imageL
  generalize nodesL seed l = N at *
  have HLE := Lib.hid (image_le HOK.out)
  clear hl hok hsz
  go_enter Try.func57, Try.ntmps57
  go_wp2_with fail
  refine (rlittle_any (l.length : Int) 4 4 rfl w (by omega) (by omega)).mono ?_
  rintro e w1 ⟨A1, n1, c1, rfl, O1⟩
  have H1 := Lib.hid O1
  clear O1
  go_wp2_with fail
  refine (HN.out w1 H1.out.kp).mono ?_
  rintro e w2 ⟨A2, c2, rfl, hc2, O2, k2⟩
  have HO2 := Lib.hid O2
  have HI : IS w w1 w2 (lits (l.length : Int) 4) (.slice A1 n1 c1) w2 := ⟨H1.out.new_ k2, Keep.refl _ _, fun kk e => .inl (World.ownsRow.lt H1.out.1 kk e).2⟩
  have HI0 := Lib.hid HI
  clear HI O2 HN k2
  have HNl := Lib.hid hNl
  rw [hNl] at HO2 hc2 HLE ⊢
  clear hNl
  go_wp2_with fail
  go_loopw [5, 7] (fun v5 v7 wr => ∃ k : Nat, k ≤ l.length ∧ v7 = .int .i64 k ∧ Hid (IS w w1 w2 (lits (l.length : Int) 4 ++ ((N.take k).map nodeImage).flatten) v5 wr)) (fun _ i _ => l.length - (intOf i).toNat)
  case atStart => exact ⟨0, Nat.zero_le _, rfl, by simpa using HI0⟩
  case round =>
    obtain ⟨k, hk, rfl, hI⟩ := hrel
    by_cases hlt : k < l.length
    · obtain ⟨x, hxN⟩ : ∃ x, N[k]? = some x := ⟨_, List.getElem?_eq_getElem (by rw [HNl.out]; exact hlt)⟩
      obtain ⟨ad, B1, d1, B2, d2, rfl, hlo, hhi, p0, p1, p4, p5, bk, bv⟩ := ownN_at HO2.out hxN
      have hst := flat_take (f := nodeImage) hxN
      obtain ⟨h1k, h64, h1000⟩ := HOK.out x (List.mem_of_getElem? hxN)
      have hle := HLE.out (k + 1)
      rw [hst, List.length_append] at hle
      have HX := Lib.hid (show ∀ (W : World) (ys : List UInt8) (v : Value), IS w w1 w2 ys v W → W.cell? (ad.add (k * 6)) = some (.slice B1 x.key.length d1) ∧ W.cell? ⟨(ad.add (k * 6)).block, (ad.add (k * 6)).off + 1, none⟩ = some (.slice B2 x.value.length d2) ∧
          W.cell? ⟨(ad.add (k * 6)).block, (ad.add (k * 6)).off + 4, none⟩ = some (.int .i64 x.left) ∧ W.cell? ⟨(ad.add (k * 6)).block, (ad.add (k * 6)).off + 5, none⟩ = some (.int .i64 x.right) ∧
          Bytes w1.heap.size W B1 x.key.length x.key ∧ Bytes w1.heap.size W B2 x.value.length x.value from fun W ys v h =>
        have c := fun (i : Nat) => h.hi.cell (p := ⟨(ad.add (k * 6)).block, (ad.add (k * 6)).off + i, none⟩) (by show (ad.add (k * 6)).block < _; rw [block_of_add]; exact hhi) (by show ¬ (ad.add (k * 6)).block < _; rw [block_of_add]; exact Nat.not_lt.2 hlo)
        ⟨(h.hi.cell (p := ad.add (k * 6)) (by rw [block_of_add]; exact hhi) (by rw [block_of_add]; exact Nat.not_lt.2 hlo)).trans p0, (c 1).trans p1, (c 4).trans p4, (c 5).trans p5, (bk.keepHi h.hi).1, (bv.keepHi h.hi).1⟩)
      obtain ⟨g0, g1, g4, g5, _⟩ := HX.out _ _ _ hI.out
      obtain ⟨fl, hfl⟩ : ∃ fl, fl = UInt8.ofNat (flagOf (decide (0 ≤ x.left)) (decide (0 ≤ x.right))) := ⟨_, rfl⟩
      obtain ⟨ys, hys⟩ : ∃ ys, ys = lits (l.length : Int) 4 ++ ((N.take k).map nodeImage).flatten := ⟨_, rfl⟩
      have hni : nodeImage x = fl :: toldL x.key x.value := by rw [nodeImage, imageL1, hfl]
      have hst2 := Lib.hid (show lits (l.length : Int) 4 ++ ((N.take (k + 1)).map nodeImage).flatten = (ys ++ [fl]) ++ toldL x.key x.value by rw [hst, hys, hni]; simp)
      have hyl : ys.length ≤ 4 + 2000 * l.length := by rw [hys, List.length_append, lits_length]; omega
      have htl := told_length x.key x.value
      rw [← hys] at hI
      have HF := Lib.hid hfl
      have j0 : (0 : Int) ≤ (k : Int) := by omega
      have j1 : (k : Int) < (l.length : Int) := by omega
      have hbase := HI0.out.own.lt
      clear hst hle p0 p1 p4 p5 bk bv hni hxN hfl hlo hhi
      generalize x.left = lf at *
      generalize x.right = rf at *
      generalize x.key = xk at *
      generalize x.value = xv at *
      by_cases q1 : 0 ≤ lf <;> by_cases q2 : 0 ≤ rf
      all_goals
        have hb1 : byteV fl = .int .u8 ((if 0 ≤ lf then 1 else 0) + (if 0 ≤ rf then 2 else 0)) := by rw [HF.out]; simp [q1, q2, flagOf, byteV]
        simp only [q1, q2, if_true, if_false] at hb1
        have HB1 := Lib.hid hb1.symm
        clear hb1
        go_wp2_with (at_builtin; refine wpList_append_any _ rfl (.tmp 38) (.tmp 40) _ rfl w.heap.size 5 i0 _ 1 1 Try.underlying23 hi0 hz0 hz1 hz2 rfl (by omega) _ _ _ rfl (hI.out.own.alloc _).rowOf w.heap.size _ 1 1 [byteV fl] rfl (reads_one _ 5 _ _ rfl HB1.out) (by simp [byteV, Value.oneCell']) (by simp only [maxLen]; omega) (by omega) (hI.out.own.alloc _).lt ?_; intro v3 w3 hown3 hg3 hat3; have I3 := Lib.hid (IS.push (hI.out.new_ ((Keep.refl No wr).alloc _)) (zs := [fl]) hown3 rfl hg3 hat3); clear hown3 hg3 hat3)
        have J3 := Lib.hid (I3.out.new_ ((Keep.refl No w3).drew))
        go_region_held3 (fun w' => w'.cell? (ad.add (k * 6)) = some (.slice B1 xk.length d1) ∧ w'.cell? ⟨(ad.add (k * 6)).block, (ad.add (k * 6)).off + 1, none⟩ = some (.slice B2 xv.length d2))
          (first
            | with_reducible exact ⟨(HX.out _ _ _ I5.out).1, (HX.out _ _ _ I5.out).2.1⟩
            | with_reducible exact ⟨(HX.out _ _ _ I4.out).1, (HX.out _ _ _ I4.out).2.1⟩
            | with_reducible exact ⟨(HX.out _ _ _ J3.out).1, (HX.out _ _ _ J3.out).2.1⟩
            | fail)
          (first
            | (go_at_call 92; refine (rtold_any B1 B2 _ d1 _ d2 xk xv _ (HX.out _ _ _ J3.out).2.2.2.2.1 (HX.out _ _ _ J3.out).2.2.2.2.2 (by omega) (by omega)).mono ?_; rintro e w4 ⟨A4, n4, c4, rfl, O4⟩; have I4 := Lib.hid (J3.out.new_ O4.kp); have T4 := Lib.hid O4; clear O4)
            | (refine step_append_any _ (by rfl) _ _ _ (by rfl) w.heap.size 5 i0 _ 1 1 Try.underlying23 hi0 hz0 hz1 hz2 rfl (by omega) _ _ _ (by rfl) I4.out.own.rowOf w.heap.size A4 n4 c4 (byteVs (toldL xk xv)) (by rfl) T4.out.reads (byteVs_one _) (by rw [T4.out.num]; simp [maxLen]; omega) (by rw [T4.out.num]; simp; omega) I4.out.own.lt ?_; intro v5 w5 hown5 hg5 hat5; have I5 := Lib.hid (IS.push I4.out (zs := toldL xk xv) hown5 T4.out.num.symm hg5 hat5); clear hown5 hg5 hat5)
            | fail)
        go_wp2
        go_roundw
        case rel => exact ⟨k + 1, by omega, by go_num, by rw [hst2.out]; exact I5⟩
        case measure => simp [intOf]; omega
    · obtain rfl : k = l.length := by omega
      have hF := Lib.hid (show OwnRet w (lits (l.length : Int) 4 ++ (N.map nodeImage).flatten) (.returned u5) wr from by
        have := hI.out.own
        rw [List.take_of_length_le (by rw [HNl.out]; exact Nat.le_refl _)] at this
        obtain ⟨A9, n9, c9, rfl, _⟩ := this.shape
        exact ⟨A9, n9, c9, rfl, this⟩)
      clear hI
      go_wp2
      go_ret
      exact hF.out
end Go.Proofs.Ytdmckjojeddaaaa
