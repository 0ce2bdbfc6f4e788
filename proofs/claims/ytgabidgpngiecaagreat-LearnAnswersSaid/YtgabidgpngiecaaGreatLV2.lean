/- Contracts of learn's labels.add, slices.Contains and Vote. Conditions: each names its own. -/
import Derived.Test.YtgabidgpngiecaaGreatLV1
import Derived.Test.YtgabidgpngiecaaGreatLP5
import Derived.Test.YtgabidgpngiecaaGreatLI0
import Derived.Deep.CutBlock
namespace Go.Proofs.YtgabidgpngiecaaGreat
open Go.RowKit Go.Proofs.YtgabidgpngiecaaGreatKit Go.Proofs.YtgabidgpngiecaaGreatPlain Go.Sort

/-- A count of a label is raised; the labels lie from place o on in block g. -/
theorem ladd_any {w : World} {g o : Nat} {t : TypeId} {cs : Array Value} {c : Int} (r : Row) (n : Int) (hr : okRow r) (h : Blk w g t cs) (lab : Nat) (hl : r.l = (lab : Nat)) (hc : cs[o + lab]? = some (.int .i64 c)) (hn : 0 ≤ n) (hn2 : n ≤ 1000) (h0 : 0 ≤ c) (h1 : c ≤ 1000000) :
    Calls Tryz.prog 47 #[.pointer (some ⟨g, o, none⟩), r.v, .int .i64 n] w fun e w' => e = .returned (.tuple #[]) ∧ Blk w' g t (cs.setIfInBounds (o + lab) (.int .i64 (c + n))) ∧ Keep (fun b => b = g) w w' := by
  obtain ⟨_, _, _, hl0, hl8⟩ := hr
  have j0 : (0 : Int) ≤ (lab : Int) := by omega
  have j1 : (lab : Int) < 8 := by omega
  have q1 : decide ((lab : Int) < 0) = false := decide_eq_false (by omega)
  have q2 : decide ((8 : Int) ≤ (lab : Int)) = false := decide_eq_false (by omega)
  have B0 := (Blk.new w 30 #[.int .i64 r.a, .int .i64 r.b, .int .i64 r.c, .int .i64 r.l])
  have h1' := Blk.alloc h (.cells #[.int .i64 r.a, .int .i64 r.b, .int .i64 r.c, .int .i64 r.l] 30)
  have k0 := (Keep.refl (fun b => b = g) w).alloc (.cells #[.int .i64 r.a, .int .i64 r.b, .int .i64 r.c, .int .i64 r.l] 30)
  have f3 := B0.cell 3
  have fg := h1'.cell (o + lab)
  have zg := h1'.frozen (o + lab)
  simp only [List.getElem?_toArray, List.getElem?_cons_zero, List.getElem?_cons_succ] at f3
  rw [hl] at f3
  rw [hc] at fg
  have HH := Lib.hid h1'
  have HK := Lib.hid k0
  clear h h1' k0 B0 hc
  unfold Row.v
  rw [hl] at *
  clear hl hl0 hl8
  go_enter Tryz.func47, Tryz.ntmps47
  go_wp2_with fail
  generalize w.alloc (.cells #[.int .i64 r.a, .int .i64 r.b, .int .i64 r.c, .int .i64 (lab : Int)] 30) = w0 at *
  go_region
  all_goals
    go_wp2
    go_end0
    exact ⟨rfl, HH.out.drew.set_ (o + lab) _, HK.out.drew.setCell (p := ⟨g, o + lab, none⟩) (.inl rfl) _⟩

/-! ### Numbers in a row of the call's own -/
def intsV (xs : List Int) : List Value := xs.map (Value.int .i64)
def OI (B : Nat) (w : World) (v : Value) (xs : List Int) : Prop := w.ownsRow B 3 1 v xs.length (intsV xs)
theorem OI.keep {B : Nat} {w w1 : World} {v : Value} {xs : List Int} {S : Nat → Prop} (h : OI B w v xs) (hk : Keep S w w1) (hs : ∀ k, v.ownBlock = some k → ¬ S k) : OI B w1 v xs := own_keep h hk hs
theorem OI.at_ {B : Nat} {w : World} {A : Option Addr} {c : Nat} {xs : List Int} (h : OI B w (.slice A xs.length c) xs) {k : Nat} (hk : k < xs.length) : ∃ g, A = some ⟨g, 0, none⟩ ∧ g < w.heap.size ∧ w.cell? ⟨g, k, none⟩ = some (.int .i64 xs[k]) := by
  obtain ⟨h1, ⟨h2, h3⟩ | ⟨g', cap, cur, h2, _, hg, hn, _, hcs, htake⟩⟩ := h
  · omega
  · injection h2 with h2 _ _
    refine ⟨g', h2, Blk.lt (w := w) (cs := cur) hg, ?_⟩
    rw [Blk.cell (w := w) (cs := cur) hg, ← Array.getElem?_toList]
    have h3 : (intsV xs)[k]? = some (.int .i64 xs[k]) := by simp [intsV, hk]
    rw [← htake, List.getElem?_take, if_pos (by omega)] at h3
    exact h3
theorem info_int : (Tryz.prog.info? 3).map (fun i => (i.zero, i.size, i.bytes)) = some (some (.int .i64 0), 1, 8) := by kernel_rfl
theorem intsV_push (xs : List Int) (x : Int) : intsV xs ++ [.int .i64 x] = intsV (xs ++ [x]) := by simp [intsV]

set_option maxHeartbeats 1000000 in
theorem index_any {B : Nat} {w : World} {v : Value} {xs : List Int} (x : Int) (h : OI B w v xs) (hl : xs.length ≤ 1000) :
    Calls Tryz.prog 63 #[v, .int .i64 x] w fun e w' => ∃ i : Int, e = .returned (.int .i64 i) ∧ (0 ≤ i ↔ x ∈ xs) ∧ w = w' := by
  obtain ⟨A, c, rfl, _⟩ := own_shape h
  have HO := Lib.hid h
  clear h
  go_enter Tryz.func63, Tryz.ntmps63
  go_wp2
  go_loopw [8] (fun v8 wr => ∃ k : Nat, k ≤ xs.length ∧ v8 = .int .i64 k ∧ Hid (x ∉ xs.take k) ∧ wr = w) (fun i _ => xs.length - (intOf i).toNat)
  case atStart => exact ⟨0, Nat.zero_le _, rfl, Lib.hid (by simp), rfl⟩
  case round =>
    obtain ⟨k, hk, rfl, hI, rfl⟩ := hrel
    by_cases hlt : k < xs.length
    · obtain ⟨g, rfl, _, e0⟩ := HO.out.at_ hlt
      have hex := Lib.hid (List.take_append_getElem hlt)
      have hmem := Lib.hid (List.getElem_mem hlt)
      have j0 : (0 : Int) ≤ (k : Int) := by omega
      have j1 : (k : Int) < (xs.length : Int) := by omega
      generalize xs[k] = y at *
      by_cases hxy : x = y
      · subst hxy
        go_wp2
        go_ret
        exact ⟨k, rfl, ⟨fun _ => hmem.out, fun _ => by omega⟩, rfl⟩
      · have hq : (x == y) = false := by simp [hxy]
        have HN := Lib.hid hxy
        clear hxy
        go_wp2
        go_roundw
        case rel => exact ⟨k + 1, by omega, by go_num, Lib.hid (by rw [← hex.out]; simp [hI.out, HN.out]), by trivial⟩
        case measure => simp [intOf]; omega
    · have hkL : k = xs.length := by omega
      subst hkL
      rw [List.take_length] at hI
      have j1 : (xs.length : Int) ≤ (xs.length : Int) := Int.le_refl _
      go_wp2
      go_ret
      exact ⟨-1, rfl, ⟨fun h => by omega, fun h => absurd h hI.out⟩, rfl⟩

set_option maxHeartbeats 1000000 in
theorem contains_any {B : Nat} {w : World} {v : Value} {xs : List Int} (x : Int) (h : OI B w v xs) (hl : xs.length ≤ 1000) :
    Calls Tryz.prog 46 #[v, .int .i64 x] w fun e w' => e = .returned (.bool (decide (x ∈ xs))) ∧ w = w' := by
  have HI := Lib.hid (index_any x h hl)
  clear h
  by_cases hx : x ∈ xs
  · have HE := Lib.hid (decide_eq_true hx)
    go_enter Tryz.func46, Tryz.ntmps46
    go_wp2_with (go_at_call 63; refine HI.out.mono ?_; rintro e w' ⟨i, rfl, hi, rfl⟩; have hi0 : 0 ≤ i := hi.2 hx)
    go_ret
    exact ⟨ret_bool HE.out.symm, rfl⟩
  · have HE := Lib.hid (decide_eq_false hx)
    go_enter Tryz.func46, Tryz.ntmps46
    go_wp2_with (go_at_call 63; refine HI.out.mono ?_; rintro e w' ⟨i, rfl, hi, rfl⟩; have hi0 : ¬ 0 ≤ i := fun h => hx (hi.1 h))
    go_ret
    exact ⟨ret_bool HE.out.symm, rfl⟩
end Go.Proofs.YtgabidgpngiecaaGreat

namespace Go.Proofs.YtgabidgpngiecaaGreat
open Go.RowKit Go.Proofs.YtgabidgpngiecaaGreatKit Go.Proofs.YtgabidgpngiecaaGreatPlain Go.Sort

theorem ret_vote {a b : Int} (h : a = b) : Ending.returned (.tuple #[.int .i64 a, .int .i64 0]) = .returned (.tuple #[.int .i64 b, .int .i64 0]) := by rw [h]
def votesA (T : List Row) : Array Value := ((List.range 8).map fun i => Value.int .i64 (cntL T (i : Nat) : Nat)).toArray
theorem votesA_get (T : List Row) {i : Nat} (hi : i < 8) : (votesA T)[i]? = some (.int .i64 (cntL T (i : Nat) : Nat)) := by simp [votesA, hi]
theorem votesA_none (T : List Row) {i : Nat} (hi : ¬ i < 8) : (votesA T)[i]? = none := Array.getElem?_eq_none (by simp [votesA]; omega)
theorem votesA_add (T : List Row) (r : Row) (n lab : Nat) (hl : r.l = (lab : Nat)) : (votesA T).setIfInBounds lab (.int .i64 ((cntL T (lab : Nat) : Nat) + (n : Nat))) = votesA (T ++ List.replicate n r) := by
  apply Array.ext_getElem?
  intro i
  rw [Array.getElem?_setIfInBounds]
  by_cases hi : i < 8
  · by_cases h : lab = i
    · subst h
      rw [if_pos rfl, if_pos (by simp [votesA]; omega), votesA_get _ hi, cntL_rep, if_pos hl]
      simp
    · rw [if_neg h, votesA_get _ hi, votesA_get _ hi, cntL_rep, if_neg (by rw [hl]; omega)]
      simp
  · rw [votesA_none _ hi, votesA_none _ hi]
    split
    · rw [if_neg (by simp [votesA]; omega)]
    · rfl
def voteF (x : Row) (L : List (Row × Nat)) (k : Nat) : Int := bestOf ((expand (stab (ltOf (farC x)) L)).take k)
structure VSt (w W : World) (v : Value) (L : List (Row × Nat)) (fv : Value) (fs : List Int) (vb : Nat) (T : List Row) : Prop where
  cn : Cnt w.heap.size W v L
  fo : OI w.heap.size W fv fs
  vo : Blk W vb 85 (votesA T)
  vg : w.heap.size ≤ vb
  kp : Keep No w W
structure VR (w W : World) (v : Value) (L : List (Row × Nat)) (fv : Value) (fs : List Int) (vb : Nat) (T : List Row) (g : Nat) (p : Row × Nat) : Prop where
  st : VSt w W v L fv fs vb T
  bk : Blk W g 96 (encC p).toArray
section
variable {w W W' : World} {v fv fv' : Value} {L : List (Row × Nat)} {fs : List Int} {vb g : Nat} {T T' : List Row} {p : Row × Nat}
theorem VSt.new_ (h : VSt w W v L fv fs vb T) (hk : Keep No W W') : VSt w W' v L fv fs vb T := ⟨h.cn.keep hk (fun _ _ x => x), h.fo.keep hk (fun _ _ x => x), h.vo.keep hk (fun x => x), h.vg, h.kp.trans hk (fun _ x => x.elim)⟩
theorem VR.new_ (h : VR w W v L fv fs vb T g p) (hk : Keep No W W') : VR w W' v L fv fs vb T g p := ⟨h.st.new_ hk, h.bk.keep hk (fun x => x)⟩
theorem VR.start (h : VSt w W v L fv fs vb T) (p : Row × Nat) : VR w (W.alloc (.cells (encC p).toArray 96)) v L fv fs vb T W.heap.size p := ⟨h.new_ ((Keep.refl No W).alloc _), Blk.new _ _ _⟩
theorem VR.push {x : Int} (h : VR w W v L fv fs vb T g p) (o : Obj) (ho : W'.ownsRow w.heap.size 3 1 fv' (fs.length + 1) (intsV fs ++ [.int .i64 x])) (hg : (W.alloc o).grownBy W' fv.ownBlock) : VR w W' v L fv' (fs ++ [x]) vb T g p := by
  have hk : Keep (fun k => fv.ownBlock = some k) W W' := ((Keep.refl _ W).alloc o).grown hg (fun k e => .inl e)
  refine ⟨⟨h.st.cn.keep hk (fun k h1 h2 => own_own_ne h.st.cn h.st.fo (by decide) k h1 h2), ?_, h.st.vo.keep hk (fun e => own_blk_ne h.st.fo h.st.vo (by decide) e), h.st.vg, h.st.kp.trans hk (fun k e => .inr (World.ownsRow.lt h.st.fo k e).1)⟩, h.bk.keep hk (fun e => own_blk_ne h.st.fo h.bk (by decide) e)⟩
  unfold OI
  rw [← intsV_push, List.length_append]
  exact ho
theorem VR.add (h : VR w W v L fv fs vb T g p) (hb : Blk W' vb 85 (votesA T')) (hk : Keep (fun b => b = vb) W W') : VR w W' v L fv fs vb T' g p := by
  have hne : g ≠ vb := h.bk.ne_ h.st.vo (by decide)
  refine ⟨⟨h.st.cn.keep hk (fun k h1 h2 => ?_), h.st.fo.keep hk (fun k h1 h2 => ?_), hb, h.st.vg, h.st.kp.trans hk (fun k e => .inr (e ▸ h.st.vg))⟩, h.bk.keep hk (fun e => hne e)⟩
  · exact own_blk_ne h.st.cn h.st.vo (by decide) (h2 ▸ h1)
  · exact own_blk_ne h.st.fo h.st.vo (by decide) (h2 ▸ h1)
theorem VR.cells (h : VR w W v L fv fs vb T g p) : W.cell? ⟨g, 0, none⟩ = some (.int .i64 p.1.a) ∧ W.cell? ⟨g, 1, none⟩ = some (.int .i64 p.1.b) ∧ W.cell? ⟨g, 2, none⟩ = some (.int .i64 p.1.c) ∧ W.cell? ⟨g, 3, none⟩ = some (.int .i64 p.1.l) ∧ W.cell? ⟨g, 4, none⟩ = some (.int .i64 (p.2 : Nat)) := ⟨h.bk.cell 0, h.bk.cell 1, h.bk.cell 2, h.bk.cell 3, h.bk.cell 4⟩
/-- labels.add, midway. -/
theorem VR.ladd (h : VR w W v L fv fs vb T g p) (n : Nat) (hr : okRow p.1) (hn : n ≤ 500) (hT : T.length ≤ 1000) :
    Calls Tryz.prog 47 #[.pointer (some ⟨vb, 0, none⟩), p.1.v, .int .i64 (n : Nat)] W fun e w' => e = .returned (.tuple #[]) ∧ VR w w' v L fv fs vb (T ++ List.replicate n p.1) g p := by
  obtain ⟨lab, hl⟩ : ∃ lab : Nat, p.1.l = lab := ⟨p.1.l.toNat, by have := hr.2.2.2.1; omega⟩
  have h8 : lab < 8 := by have := hr.2.2.2.2; omega
  refine (ladd_any (o := 0) p.1 n hr h.st.vo lab hl (by rw [Nat.zero_add]; exact votesA_get T h8) (by omega) (by omega) (by omega) (by have := cntL_le T lab; omega)).mono ?_
  rintro e w' ⟨he, hb, hk⟩
  rw [Nat.zero_add, votesA_add T p.1 n lab hl] at hb
  exact ⟨he, h.add hb hk⟩
end

set_option maxHeartbeats 1000000 in
set_option maxRecDepth 100000 in
theorem vote_any {base : Nat} {w : World} {mb b : Nat} {l : List Row} (x : Row) (k : Int) (h : Mdl base w mb b l) (hk : k < 9223372036854775808) (hx : okPt x) (hk1 : 1 ≤ k) (hl : 0 < l.length) :
    Calls Tryz.prog 14 #[.pointer (some ⟨mb, 0, none⟩), ptV x, .int .i64 k] w fun e w' => ∃ L, Canon L ∧ (expand L).Perm l ∧ e = .returned (.tuple #[.int .i64 (voteF x L k.toNat), .int .i64 0]) ∧ Keep No w w' := by
  have mixed : Tryz.prog.follows .mixedOrders = true := by kernel_rfl
  obtain ⟨i0, hi0, hz0, hz1, hz2⟩ := info_parts info_int
  have B0 := Blk.new w 28 #[.int .i64 x.a, .int .i64 x.b, .int .i64 x.c]
  have K0 := Lib.hid ((Keep.refl No w).alloc (.cells #[.int .i64 x.a, .int .i64 x.b, .int .i64 x.c] 28))
  have HI := Lib.hid (fun W => inside_any x.a x.b x.c W)
  rw [decide_eq_true (show okX x.a ∧ okX x.b ∧ okX x.c from hx)] at HI
  have HM := Lib.hid (fun W (hW : Keep No w W) => sorted_full (h.new_ hW))
  have f0 := B0.cell 0
  have f1 := B0.cell 1
  have f2 := B0.cell 2
  simp only [List.getElem?_toArray, List.getElem?_cons_zero, List.getElem?_cons_succ] at f0 f1 f2
  have HB := Lib.hid B0
  have HX := Lib.hid hx
  have HL := Lib.hid (show l.length ≤ 500 ∧ 0 < l.length from ⟨h.len, hl⟩)
  clear h B0 hx hl
  have hkk : decide (k < 1) = false := decide_eq_false (by omega)
  unfold ptV
  go_enter Tryz.func14, Tryz.ntmps14
  go_wp2_with fail
  generalize w.alloc (.cells #[.int .i64 x.a, .int .i64 x.b, .int .i64 x.c] 28) = w0 at *
  refine (HI.out w0).mono ?_
  rintro e w1 ⟨rfl, k1⟩
  have K1 := Lib.hid (K0.out.trans k1 (fun _ x => x.elim))
  have HB1 := Lib.hid (HB.out.keep k1 (fun x => x))
  clear k1 f0 f1 f2 HI HB K0
  go_wp2_with fail
  refine (HM.out _ K1.out).mono ?_
  rintro e w2 ⟨v, L, rfl, hC, hsrt, hp, hL5, hok, hk2, hdif⟩
  have HL0 := Lib.hid (show 0 < L.length from by
    rcases L with _ | ⟨p, L⟩
    · have := hp.length_eq; have := HL.out; simp [expand] at *; omega
    · simp)
  have hlc : ∃ A c, v = .slice A L.length c := by obtain ⟨A, c, h, _⟩ := own_shape hC; exact ⟨A, c, h⟩
  obtain ⟨A, c, rfl⟩ := hlc
  have HC2 := Lib.hid hC
  have HCan := Lib.hid (show Canon L ∧ (expand L).Perm l ∧ L.length ≤ 500 ∧ (∀ p ∈ L, 0 < p.2 ∧ okRow p.1) from ⟨⟨hsrt, hdif, fun p hp => (hok p hp).1⟩, hp, hL5, hok⟩)
  have K2 := Lib.hid (K1.out.trans hk2 (fun _ x => x.elim))
  have HB2 := Lib.hid (HB1.out.keep hk2 (fun x => x))
  have hz : ((L.length : Int) == 0) = false := by have := HL0.out; rw [beq_eq_false_iff_ne]; omega
  have KZ := Lib.hid K1.out.size
  clear hC hsrt hp hL5 hok hk2 hdif HM HB1 K1
  have HS := Lib.hid (nearsort_any x HC2.out HL0.out HCan.out.2.2.1 (fun p hp => (HCan.out.2.2.2 p hp).2) HX.out HB2.out)
  go_upto_block 0 with (go_at_call 42; refine HS.out.mono ?_; rintro e w3 ⟨rfl, hc3, hk3⟩; have H3 := Lib.hid (show _ ∧ _ from ⟨hc3, hk3⟩); clear hc3 hk3)
  obtain ⟨L', hL'⟩ : ∃ L', L' = stab (ltOf (farC x)) L := ⟨_, rfl⟩
  have hLl : L'.length = L.length := by rw [hL', stab_length]
  have HP' := Lib.hid (show L'.Perm L from hL' ▸ stab_perm _)
  rw [← hL'] at H3
  have HV := Lib.hid (show voteF x L k.toNat = bestOf ((expand L').take k.toNat) from by rw [hL']; rfl)
  have HT0 := Lib.hid (show VSt w (w3.alloc (.cells #[.int .i64 0, .int .i64 0, .int .i64 0, .int .i64 0, .int .i64 0, .int .i64 0, .int .i64 0, .int .i64 0] 85)) (.slice A L.length c) L' (.slice none 0 0) [] w3.heap.size [] from by
    have hk3 : Keep No w w3 := K2.out.trans H3.out.2 (fun k e => .inr (Nat.le_trans KZ.out (HC2.out.lt k e).1))
    refine VSt.new_ (W := w3.alloc _) ⟨?_, World.ownsRow_nil _ _ _ _, Blk.new _ _ _, hk3.size, hk3.alloc _⟩ (Keep.refl _ _)
    exact (show Cnt w.heap.size w3 (.slice A L.length c) L' from by have := H3.out.1; unfold Cnt at this ⊢; exact own_weak this KZ.out).keep ((Keep.refl No w3).alloc _) (fun _ _ x => x))
  have HOK' := Lib.hid (show ∀ p ∈ L', okRow p.1 ∧ 0 < p.2 ∧ p.2 ≤ 500 from fun p hp => by
    have h1 := HCan.out.2.2.2 p (HP'.out.mem_iff.1 hp)
    refine ⟨h1.2, h1.1, ?_⟩
    have h2 := times_le (HP'.out.mem_iff.1 hp)
    have h3 := HCan.out.2.1.length_eq
    have := HL.out
    omega)
  have HXL := Lib.hid (show ∀ i, (expand (L'.take i)).length ≤ 500 from fun i => by
    have h2 := (expand_perm HP'.out).length_eq
    have h3 := HCan.out.2.1.length_eq
    have := HL.out
    have h4 : (expand (L'.take i)).length ≤ (expand L').length := by
      have : expand L' = expand (L'.take i) ++ expand (L'.drop i) := by unfold expand; rw [← List.flatMap_append, List.take_append_drop]
      rw [this, List.length_append]; omega
    omega)
  have HKn := Lib.hid (show (k.toNat : Int) = k from by omega)
  have HLl := Lib.hid hLl
  clear hL' hLl H3 HS HB2 K2
  generalize w3.alloc (.cells #[.int .i64 0, .int .i64 0, .int .i64 0, .int .i64 0, .int .i64 0, .int .i64 0, .int .i64 0, .int .i64 0] 85) = w4 at *
  generalize w3.heap.size = vb at *
  go_cut [2, 10] (fun _ s10 wc => Hid (VSt w wc (.slice A L.length c) L' s10 (firsts ((expand L').take k.toNat)) vb ((expand L').take k.toNat)))
  case first =>
    go_wp2_with fail
    go_loopw [2, 10, 35] (fun v2 v10 v35 wr => ∃ (i : Nat) (kc : Int), i ≤ L.length ∧ v35 = .int .i64 i ∧ v2 = .int .i64 kc ∧ 0 ≤ kc ∧ kc ≤ k ∧ Hid (kc + ((expand (L'.take i)).take k.toNat).length = k) ∧ Hid (VSt w wr (.slice A L.length c) L' v10 (firsts ((expand (L'.take i)).take k.toNat)) vb ((expand (L'.take i)).take k.toNat))) (fun _ _ i _ => L.length - (intOf i).toNat)
    case atStart => exact ⟨0, k, Nat.zero_le _, rfl, rfl, by omega, by omega, Lib.hid (by simp [expand]), by simpa [expand, firsts] using HT0⟩
    case round =>
      clear HT0
      obtain ⟨i, kc, hi, rfl, rfl, hkc0, hkck, hE, hV⟩ := hrel
      have hL500 : L.length ≤ 500 := HCan.out.2.2.1
      by_cases hlt : i < L.length
      · obtain ⟨p, hp⟩ : ∃ p, L'[i]? = some p := ⟨_, List.getElem?_eq_getElem (by rw [HLl.out]; exact hlt)⟩
        have HR := Lib.hid (show VR w (wr.alloc (.cells #[.int .i64 p.1.a, .int .i64 p.1.b, .int .i64 p.1.c, .int .i64 p.1.l, .int .i64 (p.2 : Nat)] 96)) (.slice A L.length c) L' u10 (firsts ((expand (L'.take i)).take k.toNat)) vb ((expand (L'.take i)).take k.toNat) wr.heap.size p from VR.start hV.out p)
        obtain ⟨g', rfl, hcell⟩ : ∃ g', A = some ⟨g', 0, none⟩ ∧ ∀ j u, (encC p)[j]? = some u → wr.cell? ⟨g', i * 5 + j, none⟩ = some u := by
          have hlt' : i < L'.length := by rw [HLl.out]; exact hlt
          obtain ⟨g', hg, hc⟩ := Cnt.at_ (c := c) (show Cnt w.heap.size wr (.slice A L'.length c) L' by rw [HLl.out]; exact hV.out.cn) hlt'
          have : L'[i] = p := by rw [List.getElem?_eq_getElem hlt'] at hp; injection hp
          rw [this] at hc
          exact ⟨g', hg, hc⟩
        have e0 := hcell 0 _ rfl
        rw [Nat.add_zero] at e0
        have e1 := hcell 1 _ rfl
        have e2 := hcell 2 _ rfl
        have e3 := hcell 3 _ rfl
        have e4 := hcell 4 _ rfl
        obtain ⟨hpo, hp0, hp5⟩ := HOK'.out p (List.mem_of_getElem? hp)
        have HPO := Lib.hid hpo
        have j0 : (0 : Int) ≤ (i : Int) := by omega
        have j1 : (i : Int) < (L.length : Int) := by omega
        have HT5 := Lib.hid (HXL.out i)
        by_cases hkz : kc = 0
        · subst hkz
          have HD := Lib.hid (take_done (L := L') (k := k.toNat) (i := i) (by
            have h1 := hE.out
            have h2 := HKn.out
            rw [List.length_take] at h1
            omega))
          clear HR hcell hp hpo
          go_wp2_with fail
          go_meet
          case rel => exact Lib.hid (by rw [HD.out]; exact hV.out.new_ ((Keep.refl No wr).alloc _))
        · have hkb : (kc == 0) = false := by rw [beq_eq_false_iff_ne]; exact hkz
          have hEl : (expand (L'.take i)).length < k.toNat := by
            have h1 := hE.out
            have h2 := HKn.out
            rw [List.length_take] at h1
            omega
          have HS := Lib.hid (take_step hp (Nat.le_of_lt hEl))
          have HTk := Lib.hid (List.take_of_length_le (Nat.le_of_lt hEl))
          obtain ⟨T, hT⟩ : ∃ T, T = expand (L'.take i) := ⟨_, rfl⟩
          rw [HTk.out] at hE HR
          rw [← hT] at hEl HS HT5 hE HR
          clear hT hcell hp hpo hV hkz HTk
          obtain ⟨kn, rfl⟩ : ∃ kn : Nat, kc = kn := ⟨kc.toNat, by omega⟩
          have HEl := Lib.hid hEl
          clear hEl
          have hkb2 : ((kn : Int) == 0) = false := hkb
          have hsz5 : (wr.alloc (.cells #[.int .i64 p.1.a, .int .i64 p.1.b, .int .i64 p.1.c, .int .i64 p.1.l, .int .i64 (p.2 : Nat)] 96)).heap.size = wr.heap.size + 1 := by simp
          have HSZ5 := Lib.hid hsz5
          clear hsz5
          go_wp2_with fail
          generalize wr.alloc (.cells #[.int .i64 p.1.a, .int .i64 p.1.b, .int .i64 p.1.c, .int .i64 p.1.l, .int .i64 (p.2 : Nat)] 96) = w5 at *
          generalize wr.heap.size = tb at *
          have HCT := Lib.hid (contains_any p.1.l HR.out.st.fo (by have := HT5.out; have := firsts_le T; omega))
          have c0 := HR.out.cells.1
          have c1 := HR.out.cells.2.1
          have c2 := HR.out.cells.2.2.1
          have c3 := HR.out.cells.2.2.2.1
          have c4 := HR.out.cells.2.2.2.2
          by_cases hm : p.1.l ∈ firsts T
          · rw [decide_eq_true hm] at HCT
            have HFI := Lib.hid (fun n (hn : 0 < n) => (firsts_rep p.1 T n hn).trans (if_pos hm))
            refine HCT.out.mono ?_
            rintro e w6 ⟨rfl, rfl⟩
            clear HCT hm
            have hkn0 : 0 < kn := by have := hkb2; rw [beq_eq_false_iff_ne] at this; omega
            have HK0 := Lib.hid hkn0
            clear hkn0
            have hl0 := HR.out.ladd (min kn p.2) HPO.out (by omega) (by have := HT5.out; omega)
            rw [show ((min kn p.2 : Nat) : Int) = min (kn : Int) (p.2 : Int) by omega] at hl0
            have HL := Lib.hid hl0
            clear hl0
            have HF := Lib.hid (show (expand (L'.take (i + 1))).take k.toNat = T ++ List.replicate (min kn p.2) p.1 from by rw [HS.out]; congr 3; have h1 := hE.out; have h2 := HKn.out; omega)
            unfold Row.v at HL
            go_wp2_with (go_at_call 47; refine HL.out.mono ?_; rintro e w7 ⟨rfl, h7⟩; have H7 := Lib.hid h7; clear h7)
            go_roundw
            case rel => exact ⟨i + 1, (kn : Int) - min (kn : Int) (p.2 : Int), by omega, by go_num, by first | rfl | go_num, by omega, by omega, Lib.hid (by rw [HF.out]; have h1 := hE.out; rw [List.length_append, List.length_replicate]; omega), Lib.hid (by rw [HF.out, HFI.out _ (by have := HK0.out; omega)]; exact H7.out.st)⟩
            case measure => simp [intOf]; omega
          · rw [decide_eq_false hm] at HCT
            have HFI := Lib.hid (fun n (hn : 0 < n) => (firsts_rep p.1 T n hn).trans (if_neg hm))
            refine HCT.out.mono ?_
            rintro e w6 ⟨rfl, rfl⟩
            clear HCT hm
            have hkn0 : 0 < kn := by have := hkb2; rw [beq_eq_false_iff_ne] at this; omega
            have HK0 := Lib.hid hkn0
            clear hkn0
            have hfl : (firsts T).length ≤ 1000 := by have := HT5.out; have := firsts_le T; omega
            go_upto_region 15 with (at_builtin; refine wpList_append_any _ rfl (.tmp 47) (.tmp 51) _ rfl w.heap.size 3 i0 _ 1 8 Tryz.underlying100 hi0 hz0 hz1 hz2 rfl (by omega) _ _ _ rfl (HR.out.st.fo.keep ((Keep.refl No _).alloc _) (fun _ _ x => x)) 0 _ 1 1 [.int .i64 p.1.l] rfl (reads_one _ 3 _ _ rfl rfl) (by simp [Value.oneCell']) (by simp only [maxLen]; omega) (by omega) (by have := HR.out.st.kp.size; simp; omega) ?_; intro v8 w8 hown8 hg8 _; have HR8 := Lib.hid (HR.out.push _ hown8 hg8); clear hown8 hg8)
            have c0 := HR8.out.cells.1
            have c1 := HR8.out.cells.2.1
            have c2 := HR8.out.cells.2.2.1
            have c3 := HR8.out.cells.2.2.2.1
            have c4 := HR8.out.cells.2.2.2.2
            have hl0 := HR8.out.ladd (min kn p.2) HPO.out (by omega) (by have := HT5.out; omega)
            rw [show ((min kn p.2 : Nat) : Int) = min (kn : Int) (p.2 : Int) by omega] at hl0
            have HL := Lib.hid hl0
            clear hl0
            have HF := Lib.hid (show (expand (L'.take (i + 1))).take k.toNat = T ++ List.replicate (min kn p.2) p.1 from by rw [HS.out]; congr 3; have h1 := hE.out; have h2 := HKn.out; omega)
            unfold Row.v at HL
            go_wp2_with (go_at_call 47; refine HL.out.mono ?_; rintro e w7 ⟨rfl, h7⟩; have H7 := Lib.hid h7; clear h7)
            go_roundw
            case rel => exact ⟨i + 1, (kn : Int) - min (kn : Int) (p.2 : Int), by omega, by go_num, by first | rfl | go_num, by omega, by omega, Lib.hid (by rw [HF.out]; have h1 := hE.out; rw [List.length_append, List.length_replicate]; omega), Lib.hid (by rw [HF.out, HFI.out _ (by have := HK0.out; omega)]; exact H7.out.st)⟩
            case measure => simp [intOf]; omega
      · obtain rfl : i = L.length := by omega
        have HD := Lib.hid (show L'.take L.length = L' from List.take_of_length_le (by rw [HLl.out]; exact Nat.le_refl _))
        have j1 : (L.length : Int) ≤ (L.length : Int) := Int.le_refl _
        have hVV := Lib.hid (HD.out ▸ hV.out)
        clear hV HD hE
        go_wp2_with fail
        go_meet
        case rel => exact hVV
  case rest =>
    clear HT0
    have HS := hcut
    clear hcut
    have HTok := Lib.hid (show ∀ r ∈ (expand L').take k.toNat, okRow r from fun r hr => by
      obtain ⟨n, h1, _⟩ := mem_expand.1 (List.mem_of_mem_take hr)
      exact (HOK'.out _ h1).1)
    have HTn := Lib.hid (show (expand L').take k.toNat ≠ [] from fun e => by
      have h1 := congrArg List.length e
      rw [List.length_take, (expand_perm HP'.out).length_eq, HCan.out.2.1.length_eq] at h1
      have := HKn.out
      have := HL.out
      simp only [List.length_nil] at h1
      omega)
    have HXL2 := Lib.hid (show ((expand L').take k.toNat).length ≤ 500 from by
      rw [List.length_take, (expand_perm HP'.out).length_eq, HCan.out.2.1.length_eq]
      have := HL.out
      omega)
    clear HXL HOK' HKn
    generalize (expand L').take k.toNat = T at *
    obtain ⟨b0, fs, hxs⟩ : ∃ b0 fs, firsts T = b0 :: fs := by
      rcases T with _ | ⟨r, T⟩
      · exact absurd rfl HTn.out
      · exact ⟨_, _, rfl⟩
    have HBst := Lib.hid (show bestOf T = (firsts T).foldl (bestStep T) b0 from by unfold bestOf; rw [hxs])
    have HLab := Lib.hid (show ∀ lab ∈ firsts T, 0 ≤ lab ∧ lab < 8 from fun lab hl => by
      obtain ⟨r, hr, rfl⟩ := mem_firsts.1 hl
      have := HTok.out r hr
      exact ⟨this.2.2.2.1, this.2.2.2.2⟩)
    have HFl := Lib.hid (show (firsts T).length ≤ 500 from Nat.le_trans (firsts_le T) HXL2.out)
    have HB0 := Lib.hid (show b0 ∈ firsts T from by rw [hxs]; exact List.mem_cons_self)
    have HF0 := Lib.hid (show ∃ h : 0 < (firsts T).length, (firsts T)[0] = b0 from ⟨by rw [hxs]; simp, by simp [hxs]⟩)
    clear HTn HXL2 HTok hxs
    generalize firsts T = xs at *
    obtain ⟨hx0, hxb⟩ := HF0.out
    have hsh : ∃ A c, u10 = .slice A xs.length c := by obtain ⟨A, c, h, _⟩ := own_shape HS.out.fo; exact ⟨A, c, h⟩
    obtain ⟨A1, c1, rfl⟩ := hsh
    obtain ⟨g1, rfl, _, e0⟩ := HS.out.fo.at_ hx0
    rw [hxb] at e0
    have hx0z : (0 : Int) < (xs.length : Int) := by omega
    clear hxb HF0
    go_wp2_with fail
    go_loopw [14, 70] (fun v14 v70 wr => ∃ (j : Nat) (best : Int), j ≤ xs.length ∧ v70 = .int .i64 j ∧ v14 = .int .i64 best ∧ Hid (best = (xs.take j).foldl (bestStep T) b0 ∧ best ∈ xs) ∧ Hid (VSt w wr (.slice A L.length c) L' (.slice (some ⟨g1, 0, none⟩) xs.length c1) xs vb T)) (fun _ i _ => xs.length - (intOf i).toNat)
    case atStart => exact ⟨0, b0, Nat.zero_le _, rfl, rfl, Lib.hid ⟨rfl, HB0.out⟩, HS⟩
    case round =>
      clear HS e0
      obtain ⟨j, best, hj, rfl, rfl, hB, hS⟩ := hrel
      by_cases hlt : j < xs.length
      · obtain ⟨g2, eg2, _, e1⟩ := hS.out.fo.at_ hlt
        injection eg2 with eg2
        injection eg2 with eg2 _ _
        subst eg2
        have hmem := HLab.out _ (List.getElem_mem hlt)
        have hbm := HLab.out _ hB.out.2
        have HM := Lib.hid (List.getElem_mem hlt)
        have hex := Lib.hid (List.take_append_getElem hlt)
        have hl5 := HFl.out
        generalize xs[j] = lab at *
        obtain ⟨ln, rfl⟩ : ∃ ln : Nat, lab = ln := ⟨lab.toNat, by omega⟩
        obtain ⟨bn, rfl⟩ : ∃ bn : Nat, best = bn := ⟨best.toNat, by omega⟩
        have v1 := (hS.out.vo.cell ln).trans (votesA_get T (by omega))
        have v2 := (hS.out.vo.cell bn).trans (votesA_get T (by omega))
        have i0 : (0 : Int) ≤ (ln : Int) := by omega
        have i1 : (ln : Int) < 8 := by omega
        have i2 : (0 : Int) ≤ (bn : Int) := by omega
        have i3 : (bn : Int) < 8 := by omega
        have j0 : (0 : Int) ≤ (j : Int) := by omega
        have j1 : (j : Int) < (xs.length : Int) := by omega
        clear hmem hbm
        by_cases hgt : cntL T bn < cntL T ln
        · have hgz : ((cntL T bn : Nat) : Int) < ((cntL T ln : Nat) : Int) := by omega
          have HN := Lib.hid (show (ln : Int) = (xs.take (j + 1)).foldl (bestStep T) b0 from by rw [← hex.out, List.foldl_append, ← hB.out.1]; simp [bestStep, hgt])
          clear hgt
          go_wp2_with fail
          go_quiet (fail)
          go_wp2_with fail
          go_roundw
          case rel => exact ⟨j + 1, ln, by omega, by go_num, rfl, Lib.hid ⟨HN.out, HM.out⟩, Lib.hid (hS.out.new_ ((Keep.refl No wr).drewN _))⟩
          case measure => simp [intOf]; omega
        · have hgz : ¬ ((cntL T bn : Nat) : Int) < ((cntL T ln : Nat) : Int) := by omega
          have HN := Lib.hid (show (bn : Int) = (xs.take (j + 1)).foldl (bestStep T) b0 from by rw [← hex.out, List.foldl_append, ← hB.out.1]; simp [bestStep, hgt])
          clear hgt
          go_wp2_with fail
          go_quiet (fail)
          go_wp2_with fail
          go_roundw
          case rel => exact ⟨j + 1, bn, by omega, by go_num, rfl, Lib.hid ⟨HN.out, hB.out.2⟩, Lib.hid (hS.out.new_ ((Keep.refl No wr).drewN _))⟩
          case measure => simp [intOf]; omega
      · obtain rfl : j = xs.length := by omega
        have j1 : (xs.length : Int) ≤ (xs.length : Int) := Int.le_refl _
        have HE := Lib.hid (show best = bestOf T from by rw [hB.out.1, List.take_length, HBst.out])
        have HK := Lib.hid hS.out.kp
        clear hB hS
        go_wp2_with fail
        go_ret2
        exact ⟨L, HCan.out.1, HCan.out.2.1, ret_vote (HE.out.trans HV.out.symm), HK.out⟩
end Go.Proofs.YtgabidgpngiecaaGreat
