/- Contracts of learn's big and Image. Conditions: each names its own. -/
import Derived.Test.YtgabidgpngiecaaGreatL7
import Derived.Test.YtgabidgpngiecaaGreatLP4
import Derived.Test.YtgabidgpngiecaaGreatLK3
namespace Go.Proofs.YtgabidgpngiecaaGreat
open Go.RowKit Go.Proofs.YtgabidgpngiecaaGreatKit Go.Proofs.YtgabidgpngiecaaGreatPlain

theorem info_u8 : (Tryz.prog.info? 5).map (fun i => (i.zero, i.size, i.bytes)) = some (some (.int .u8 0), 1, 1) := by kernel_rfl
def bigL (x : Int) : List UInt8 := [byt (x / 256), byt x]
def rowL (p : Row × Nat) : List UInt8 := bigL (p.1.a + 1000) ++ bigL (p.1.b + 1000) ++ bigL (p.1.c + 1000) ++ [byt p.1.l] ++ bigL (p.2 : Nat)
def imgL (L : List (Row × Nat)) : List UInt8 := bigL (L.length : Nat) ++ (L.map rowL).flatten

set_option maxHeartbeats 1000000 in
set_option maxRecDepth 100000 in
theorem big_any {B : Nat} {w : World} {v : Value} {ys : List UInt8} (x : Int) (h : OB B w v ys) (hB : B ≤ w.heap.size) (hy : ys.length ≤ 1000000) (hx : 0 ≤ x) (hx2 : x < 65536) :
    Calls Tryz.prog 54 #[v, .int .i64 x] w fun e w' => ∃ v', e = .returned v' ∧ OB B w' v' (ys ++ bigL x) ∧ Keep (fun k => v.ownBlock = some k) w w' := by
  obtain ⟨i0, hi0, hz0, hz1, hz2⟩ := info_parts info_u8
  have HO := Lib.hid h
  clear h
  go_enter Tryz.func54, Tryz.ntmps54
  go_wp2_with (at_builtin; refine wpList_append_any _ rfl (.tmp 5) (.tmp 11) _ rfl B 5 i0 _ 1 1 Tryz.underlying64 hi0 hz0 hz1 hz2 rfl (by omega) _ _ _ rfl (HO.out.alloc _) B _ 2 2 [byteV (byt (x / 256)), byteV (byt x)] rfl (reads_two _ _ _ _ _ _ rfl (byt_low (by omega) (by omega)) (byt_mod x)) (by simp [byteV, Value.oneCell']) (by simp only [maxLen]; omega) (by omega) (by simp; omega) ?_; intro v1 w1 hown hg _; have H1 := Lib.hid (show OB B w1 v1 (ys ++ bigL x) from OB.push (zs := bigL x) hown rfl); have K1 := Lib.hid (((Keep.refl (fun k => v.ownBlock = some k) w).alloc (.cells #[.int .u8 (x / 256), .int .u8 (x % 256)] 5)).grown hg (fun k e => .inl e)); clear hown hg)
  go_ret
  exact ⟨_, rfl, H1.out, K1.out⟩

/-- Midway through Image: the rows, and the bytes so far. -/
structure Img (w W : World) (cv : Value) (L : List (Row × Nat)) (v : Value) (ys : List UInt8) : Prop where
  cnt : Cnt w.heap.size W cv L
  own : OB w.heap.size W v ys
  kp : Keep No w W
structure ImgR (w W : World) (cv : Value) (L : List (Row × Nat)) (v : Value) (ys : List UInt8) (g : Nat) (p : Row × Nat) : Prop where
  im : Img w W cv L v ys
  bk : Blk W g 96 (encC p).toArray
section
variable {w W W' : World} {cv v v' : Value} {L : List (Row × Nat)} {ys ys' : List UInt8} {g : Nat} {p : Row × Nat}
theorem Img.new_ (h : Img w W cv L v ys) (hk : Keep No W W') : Img w W' cv L v ys := ⟨h.cnt.keep hk (fun _ _ x => x), h.own.new_ hk, h.kp.trans hk (fun _ x => x.elim)⟩
theorem Img.step (h : Img w W cv L v ys) (ho : OB w.heap.size W' v' ys') (hk : Keep (fun k => v.ownBlock = some k) W W') : Img w W' cv L v' ys' :=
  ⟨h.cnt.keep hk (fun k h1 h2 => own_own_ne h.cnt h.own (by decide) k h1 h2), ho, h.kp.trans hk (fun k e => .inr (h.own.lt k e).1)⟩
theorem ImgR.new_ (h : ImgR w W cv L v ys g p) (hk : Keep No W W') : ImgR w W' cv L v ys g p := ⟨h.im.new_ hk, h.bk.keep hk (fun x => x)⟩
theorem ImgR.step (h : ImgR w W cv L v ys g p) (ho : OB w.heap.size W' v' ys') (hk : Keep (fun k => v.ownBlock = some k) W W') : ImgR w W' cv L v' ys' g p :=
  ⟨h.im.step ho hk, h.bk.keep hk (fun e => own_blk_ne h.im.own h.bk (by decide) e)⟩
theorem ImgR.start (h : Img w W cv L v ys) (p : Row × Nat) : ImgR w (W.alloc (.cells (encC p).toArray 96)) cv L v ys W.heap.size p := ⟨h.new_ ((Keep.refl No W).alloc _), Blk.new _ _ _⟩
/-- big, midway. -/
theorem ImgR.big (h : ImgR w W cv L v ys g p) (x : Int) (hy : ys.length ≤ 1000000) (hx : 0 ≤ x) (hx2 : x < 65536) :
    Calls Tryz.prog 54 #[v, .int .i64 x] W fun e w' => ∃ v', e = .returned v' ∧ ImgR w w' cv L v' (ys ++ bigL x) g p :=
  (big_any x h.im.own h.im.kp.size hy hx hx2).mono fun _ _ ⟨v', he, ho, hk⟩ => ⟨v', he, h.step ho hk⟩
theorem ImgR.cells (h : ImgR w W cv L v ys g p) : W.cell? ⟨g, 3, none⟩ = some (.int .i64 p.1.l) ∧ W.cell? ⟨g, 4, none⟩ = some (.int .i64 (p.2 : Nat)) := ⟨h.bk.cell 3, h.bk.cell 4⟩
theorem ImgR.push {n : Nat} {zs : List UInt8} {o : Obj} (h : ImgR w W cv L v ys g p) (h1 : W'.ownsRow w.heap.size 5 1 v' (ys.length + n) (byteVs ys ++ byteVs zs)) (hl : zs.length = n) (hg : (W.alloc o).drew.grownBy W' v.ownBlock) : ImgR w W' cv L v' (ys ++ zs) g p :=
  h.step (OB.push h1 hl) (((Keep.refl _ W).alloc o).drew.grown hg (fun _ e => .inl e))
end
theorem bigL_length (x : Int) : (bigL x).length = 2 := rfl
theorem rowL_length (p : Row × Nat) : (rowL p).length = 9 := by simp [rowL, bigL]
theorem rows_length : ∀ L : List (Row × Nat), ((L.map rowL).flatten).length = 9 * L.length
  | [] => rfl
  | p :: L => by rw [List.map_cons, List.flatten_cons, List.length_append, rows_length L, rowL_length, List.length_cons]; omega
theorem rows_take {L : List (Row × Nat)} {k : Nat} (h : k < L.length) : ((L.take (k + 1)).map rowL).flatten = ((L.take k).map rowL).flatten ++ rowL L[k] := by
  rw [← List.take_append_getElem h, List.map_append, List.flatten_append]
  simp

set_option maxHeartbeats 4000000 in
set_option maxRecDepth 100000 in
theorem image_any {base : Nat} {w : World} {mb b : Nat} {l : List Row} (h : Mdl base w mb b l) :
    Calls Tryz.prog 22 #[.pointer (some ⟨mb, 0, none⟩)] w fun e w' => ∃ v L, e = .returned v ∧ Canon L ∧ (expand L).Perm l ∧ OB w.heap.size w' v (imgL L) ∧ Keep No w w' := by
  obtain ⟨i0, hi0, hz0, hz1, hz2⟩ := info_parts info_u8
  have h5 := h.len
  have HN := Lib.hid (show ∃ s, MdlS base w mb b s l.length from by obtain ⟨s, h1, _⟩ := h; exact ⟨s, h1⟩)
  have HSo := Lib.hid (sorted_full h)
  clear h
  go_enter Tryz.func22, Tryz.ntmps22
  go_wp2_with (go_at_call 26; refine (none_any (HN.out.choose_spec.blk.cell 0)).mono ?_; rintro e w' ⟨rfl, rfl⟩)
  refine HSo.out.mono ?_
  rintro e w1 ⟨cv, L, rfl, hC, hsrt, hp, hL, hok, hk1, hdif⟩
  obtain ⟨c, A, rfl⟩ : ∃ c A, cv = .slice A L.length c := by
    obtain ⟨A, c, h, _⟩ := own_shape hC
    exact ⟨c, A, h⟩
  have HCan := Lib.hid (show Canon L ∧ (expand L).Perm l from ⟨⟨hsrt, hdif, fun p hp => (hok p hp).1⟩, hp⟩)
  have HI := Lib.hid (show Img w w1 (.slice A L.length c) L (.slice none 0 0) [] from ⟨hC, OB.start _ _, hk1⟩)
  have HT := Lib.hid (show ∀ p ∈ L, okRow p.1 ∧ p.2 ≤ 500 from fun p hp2 => ⟨(hok p hp2).2, by have := times_le hp2; have := hp.length_eq; omega⟩)
  clear hC hsrt hp hok hk1 hdif HSo HN
  go_wp2_with (go_at_call 54; refine (big_any (L.length : Nat) HI.out.own HI.out.kp.size (by simp) (by omega) (by omega)).mono ?_; rintro e w2 ⟨v2, rfl, ho2, hk2⟩; have HI2 := Lib.hid (show Img w w2 (.slice A L.length c) L v2 (bigL (L.length : Nat) ++ ((L.take 0).map rowL).flatten) from by have := HI.out.step ho2 hk2; simpa using this); clear ho2 hk2)
  go_loopw [4, 18] (fun v4 v18 wr => ∃ k : Nat, k ≤ L.length ∧ v18 = .int .i64 k ∧ Hid (Img w wr (.slice A L.length c) L v4 (bigL (L.length : Nat) ++ ((L.take k).map rowL).flatten))) (fun _ i _ => L.length - (intOf i).toNat)
  case atStart => exact ⟨0, Nat.zero_le _, rfl, HI2⟩
  case round =>
    clear HI HI2
    obtain ⟨k, hk, rfl, hI⟩ := hrel
    by_cases hlt : k < L.length
    · obtain ⟨g', rfl, hcell⟩ := hI.out.cnt.at_ hlt
      have e0 := hcell 0 _ rfl
      rw [Nat.add_zero] at e0
      have e1 := hcell 1 _ rfl
      have e2 := hcell 2 _ rfl
      have e3 := hcell 3 _ rfl
      have e4 := hcell 4 _ rfl
      obtain ⟨hrk, hpt⟩ := HT.out _ (List.getElem_mem hlt)
      have hyl : (bigL (L.length : Nat) ++ ((L.take k).map rowL).flatten).length ≤ 10000 := by
        rw [List.length_append, bigL_length, rows_length, List.length_take]; omega
      have HR := Lib.hid (rows_take hlt)
      obtain ⟨ys, hys⟩ : ∃ ys, ys = bigL (L.length : Nat) ++ ((L.take k).map rowL).flatten := ⟨_, rfl⟩
      have HY := Lib.hid hys
      rw [← hys] at hI hyl
      clear hcell hys
      generalize L[k] = p at *
      obtain ⟨⟨a1, a2⟩, ⟨b1, b2⟩, ⟨c1, c2⟩, d1, d2⟩ := hrk
      have i0' : ∀ W, (Instr.index 28 (.agg #[.int .i64 p.1.a, .int .i64 p.1.b, .int .i64 p.1.c]) (.int .i64 0)).run Tryz.prog W = .ok (.int .i64 p.1.a) W := fun _ => by kernel_rfl
      have i1' : ∀ W, (Instr.index 28 (.agg #[.int .i64 p.1.a, .int .i64 p.1.b, .int .i64 p.1.c]) (.int .i64 1)).run Tryz.prog W = .ok (.int .i64 p.1.b) W := fun _ => by kernel_rfl
      have i2' : ∀ W, (Instr.index 28 (.agg #[.int .i64 p.1.a, .int .i64 p.1.b, .int .i64 p.1.c]) (.int .i64 2)).run Tryz.prog W = .ok (.int .i64 p.1.c) W := fun _ => by kernel_rfl
      have j0 : (0 : Int) ≤ (k : Int) := by omega
      have j1 : (k : Int) < (L.length : Int) := by omega
      have H0 := Lib.hid (ImgR.start hI.out p)
      clear hI
      go_wp2_with fail
      refine wp_loop_rounds 4 ?_
      rw [rounds_succ]
      go_wp2_with (go_at_call 54; refine (H0.out.big _ (by omega) (by omega) (by omega)).mono ?_; rintro e w3 ⟨v3, rfl, h3⟩; have H3 := Lib.hid h3; clear h3)
      rw [rounds_succ]
      go_wp2_with (go_at_call 54; refine (H3.out.big _ (by simp [bigL_length]; omega) (by omega) (by omega)).mono ?_; rintro e w4 ⟨v4, rfl, h4⟩; have H4 := Lib.hid h4; clear h4)
      rw [rounds_succ]
      go_wp2_with (go_at_call 54; refine (H4.out.big _ (by simp [bigL_length]; omega) (by omega) (by omega)).mono ?_; rintro e w5 ⟨v5, rfl, h5'⟩; have H5 := Lib.hid h5'; clear h5')
      rw [rounds_succ]
      go_wp2_with fail
      have H5d := Lib.hid (H5.out.new_ (Keep.refl No w5).drew)
      obtain ⟨c3, c4⟩ := H5.out.cells
      go_region_held3 (fun W => W.cell? ⟨wr.heap.size, 3, none⟩ = some (.int .i64 p.1.l) ∧ W.cell? ⟨wr.heap.size, 4, none⟩ = some (.int .i64 (p.2 : Nat)))
        (first
          | with_reducible exact H5d.out.cells
          | with_reducible exact (H5.out.new_ (((Keep.refl No w5).alloc _).drew)).cells
          | with_reducible exact H6.out.cells
          | with_reducible exact H7.out.cells
          | fail)
        (first
          | (go_at_call 54; refine (H6.out.big _ (by simp [bigL_length]; omega) (by omega) (by omega)).mono ?_; rintro e w7 ⟨v7, rfl, h7⟩; have H7 := Lib.hid h7; clear h7)
          | (refine step_append_any _ (by rfl) _ _ _ (by rfl) w.heap.size 5 i0 _ 1 1 Tryz.underlying64 hi0 hz0 hz1 hz2 rfl (by omega) _ _ _ (by rfl) (H5.out.new_ (((Keep.refl No w5).alloc _).drew)).im.own w.heap.size _ 1 1 [byteV (byt p.1.l)] (by rfl) (reads_one' _ 5 _ _ rfl (byt_val _)) (by simp [byteV, Value.oneCell']) (by simp [maxLen, bigL_length]; omega) (by simp [bigL_length]; omega) (by have := H5d.out.im.kp.size; simp at *; omega) ?_; intro v6 w6 hown6 hg6 _; have H6 := Lib.hid (ImgR.push H5.out (zs := [byt p.1.l]) hown6 rfl hg6); clear hown6 hg6)
          | fail)
      go_wp2
      go_roundw
      case rel => exact ⟨k + 1, by omega, by go_num, Lib.hid (by rw [HR.out, ← List.append_assoc, ← HY.out]; simpa [rowL] using H7.out.im)⟩
      case measure => simp [intOf]; omega
    · obtain rfl : k = L.length := by omega
      rw [List.take_length] at hI
      have HE := Lib.hid hI.out
      clear hI
      have j1 : (L.length : Int) ≤ (L.length : Int) := Int.le_refl _
      go_wp2
      go_ret
      exact ⟨_, L, rfl, HCan.out.1, HCan.out.2, HE.out.own, HE.out.kp⟩
end Go.Proofs.YtgabidgpngiecaaGreat
