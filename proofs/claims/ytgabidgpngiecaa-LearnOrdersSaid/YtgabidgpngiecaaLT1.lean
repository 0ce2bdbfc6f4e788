/- Contract of learn's split. Conditions: each names its own. -/
import Derived.Test.YtgabidgpngiecaaLT0
namespace Go.Proofs.Ytgabidgpngiecaa
open Go.RowKit Go.Proofs.YtgabidgpngiecaaKit Go.Proofs.YtgabidgpngiecaaPlain

def lowL (col : Nat) (t : Int) (L : List (Row × Nat)) : List (Row × Nat) := L.filter (fun p => decide (p.1.x col ≤ t))
def highL (col : Nat) (t : Int) (L : List (Row × Nat)) : List (Row × Nat) := L.filter (fun p => !decide (p.1.x col ≤ t))
theorem low_push {col : Nat} {t : Int} (L : List (Row × Nat)) (p : Row × Nat) (h : p.1.x col ≤ t) : lowL col t (L ++ [p]) = lowL col t L ++ [p] ∧ highL col t (L ++ [p]) = highL col t L := by
  constructor
  · simp [lowL, List.filter_append, h]
  · simp [highL, List.filter_append, h]
theorem high_push {col : Nat} {t : Int} (L : List (Row × Nat)) (p : Row × Nat) (h : ¬ p.1.x col ≤ t) : lowL col t (L ++ [p]) = lowL col t L ∧ highL col t (L ++ [p]) = highL col t L ++ [p] := by
  constructor
  · simp [lowL, List.filter_append, h]
  · simp [highL, List.filter_append, h]
structure SpSt (B : Nat) (w W : World) (v : Value) (L : List (Row × Nat)) (lv : Value) (LO : List (Row × Nat)) (hv : Value) (HI : List (Row × Nat)) : Prop where
  cn : Cnt B W v L
  lo : Cnt w.heap.size W lv LO
  hi : Cnt w.heap.size W hv HI
  sep : ∀ k, lv.ownBlock = some k → hv.ownBlock ≠ some k
  kp : Keep No w W
  old : ∀ k, v.ownBlock = some k → k < w.heap.size
section
variable {B : Nat} {w W W' : World} {v lv hv v' : Value} {L LO HI : List (Row × Nat)} {p : Row × Nat}
theorem SpSt.new_ (h : SpSt B w W v L lv LO hv HI) (hk : Keep No W W') : SpSt B w W' v L lv LO hv HI := ⟨h.cn.keep hk (fun _ _ x => x), h.lo.keep hk (fun _ _ x => x), h.hi.keep hk (fun _ _ x => x), h.sep, h.kp.trans hk (fun _ x => x.elim), h.old⟩
theorem SpSt.pushlo {o : Obj} (h : SpSt B w W v L lv LO hv HI) (ho : W'.ownsRow w.heap.size 87 5 v' (LO.length + 1) (cells5 LO ++ encC p)) (hg : (W.alloc o).grownBy W' lv.ownBlock) (hat : v'.ownBlock = lv.ownBlock ∨ v'.ownBlock = some (W.alloc o).heap.size) : SpSt B w W' v L v' (LO ++ [p]) hv HI := by
  have hk : Keep (fun k => lv.ownBlock = some k) W W' := ((Keep.refl _ W).alloc o).grown hg (fun k e => .inl e)
  refine ⟨h.cn.keep hk (fun k h1 h2 => ?_), ?_, h.hi.keep hk (fun k h1 h2 => h.sep k h2 h1), fun k e e2 => ?_, h.kp.trans hk (fun k e => .inr (h.lo.lt k e).1), h.old⟩
  · have := h.old k h1
    have := (h.lo.lt k h2).1
    omega
  · unfold Cnt
    rw [← cells5_push, List.length_append]
    exact ho
  · rcases hat with hat | hat
    · rw [hat] at e
      exact h.sep k e e2
    · rw [hat] at e
      have := (h.hi.lt k e2).2
      simp at e
      omega
theorem SpSt.pushhi {o : Obj} (h : SpSt B w W v L lv LO hv HI) (ho : W'.ownsRow w.heap.size 87 5 v' (HI.length + 1) (cells5 HI ++ encC p)) (hg : (W.alloc o).grownBy W' hv.ownBlock) (hat : v'.ownBlock = hv.ownBlock ∨ v'.ownBlock = some (W.alloc o).heap.size) : SpSt B w W' v L lv LO v' (HI ++ [p]) := by
  have hk : Keep (fun k => hv.ownBlock = some k) W W' := ((Keep.refl _ W).alloc o).grown hg (fun k e => .inl e)
  refine ⟨h.cn.keep hk (fun k h1 h2 => ?_), h.lo.keep hk (fun k h1 h2 => h.sep k h1 h2), ?_, fun k e e2 => ?_, h.kp.trans hk (fun k e => .inr (h.hi.lt k e).1), h.old⟩
  · have := h.old k h1
    have := (h.hi.lt k h2).1
    omega
  · unfold Cnt
    rw [← cells5_push, List.length_append]
    exact ho
  · rcases hat with hat | hat
    · rw [hat] at e2
      exact h.sep k e e2
    · rw [hat] at e2
      have := (h.lo.lt k e).2
      simp at e2
      omega
end

set_option maxHeartbeats 1000000 in
set_option maxRecDepth 100000 in
theorem split_at {B : Nat} {w : World} {v : Value} {L : List (Row × Nat)} (col cl : Nat) (hcl : cl = col) (cut : Int) (hC : Cnt B w v L) (hcol : col < 3) (hL : L.length ≤ 500) :
    Calls Try.prog 49 #[v, .int .i64 (col : Nat), .int .i64 cut] w fun e w' => ∃ lv hv, e = .returned (.tuple #[lv, hv]) ∧ SpSt B w w' v L lv (lowL cl cut L) hv (highL cl cut L) := by
  obtain ⟨i0, hi0, hz0, hz1, hz2⟩ := info_parts info_counted
  obtain ⟨A, c, rfl, -⟩ := own_shape hC
  have H0 := Lib.hid (show SpSt B w w (.slice A L.length c) L (.slice none 0 0) [] (.slice none 0 0) [] from ⟨hC, World.ownsRow_nil _ _ _ _, World.ownsRow_nil _ _ _ _, fun _ e => (by cases e), Keep.refl _ _, fun k e => (hC.lt k e).2⟩)
  clear hC
  have hcases : col = 0 ∨ col = 1 ∨ col = 2 := by omega
  clear hcol
  rcases hcases with rfl | rfl | rfl
  · have HCL := Lib.hid hcl
    clear hcl
    go_enter Try.func49, Try.ntmps49
    go_wp2_with fail
    go_loopg [6, 7, 12] L.length (fun kx s6 s7 s12 wr => ∃ k : Nat, s12 = .int .i64 k ∧ k ≤ L.length ∧ L.length ≤ k + kx ∧ Hid (SpSt B w wr (.slice A L.length c) L s6 (lowL cl cut (L.take k)) s7 (highL cl cut (L.take k))))
    case atStart => exact ⟨0, rfl, Nat.zero_le _, by omega, H0⟩
    case round =>
      clear H0
      obtain ⟨k, rfl, hk, hkx, HS⟩ := hrel
      by_cases hlt : k < L.length
      · obtain ⟨g', rfl, hcell⟩ := HS.out.cn.at_ hlt
        have e0 := hcell 0 _ rfl
        rw [Nat.add_zero] at e0
        have e1 := hcell 1 _ rfl
        have e2 := hcell 2 _ rfl
        have e3 := hcell 3 _ rfl
        have e4 := hcell 4 _ rfl
        have hex := Lib.hid (List.take_append_getElem hlt)
        clear hcell
        generalize L[k] = p at *
        have i0' : (0 : Int) ≤ (k : Int) := by omega
        have i1 : (k : Int) < (L.length : Int) := by omega
        have H1 := Lib.hid (HS.out.new_ ((Keep.refl No wr).alloc (.cells (encC p).toArray 87)))
        have HX := Lib.hid (show p.1.x cl = p.1.a from by rw [HCL.out]; rfl)
        have HLN := Lib.hid (show (lowL cl cut (L.take k)).length ≤ 500 ∧ (highL cl cut (L.take k)).length ≤ 500 from by
          have h1 := List.length_filter_le (fun p : Row × Nat => decide (p.1.x cl ≤ cut)) (L.take k)
          have h2 := List.length_filter_le (fun p : Row × Nat => !decide (p.1.x cl ≤ cut)) (L.take k)
          rw [List.length_take] at h1 h2
          unfold lowL highL
          omega)
        by_cases hle : p.1.a ≤ cut
        · have hg : decide (p.1.a ≤ cut) = true := decide_eq_true hle
          have HE := Lib.hid (show lowL cl cut (L.take (k + 1)) = lowL cl cut (L.take k) ++ [p] ∧ highL cl cut (L.take (k + 1)) = highL cl cut (L.take k) from by rw [← hex.out]; exact low_push _ _ (by rw [HX.out]; exact hle))
          clear hle
          go_wp2_with (at_builtin; refine wpList_append_any _ rfl (.tmp 23) (.tmp 25) _ rfl w.heap.size 87 i0 _ 5 40 Try.underlying78 hi0 hz0 hz1 hz2 rfl (by omega) _ _ _ rfl (H1.out.lo.keep ((Keep.refl No _).alloc _) (fun _ _ x => x)) 0 _ 1 1 (encC p) rfl (rec_at _ rfl rfl) (encC_one p) (by have := HLN.out; simp only [maxLen]; omega) (by have := HLN.out; omega) (by have := HS.out.kp.size; simp; omega) ?_; intro v4 w4 hown4 hg4 hat4; have H4 := Lib.hid (H1.out.pushlo hown4 hg4 hat4); clear hown4 hg4 hat4)
          go_roundg (L.length - (k + 1))
          case measure => omega
          case rel => exact ⟨k + 1, by go_num, by omega, by omega, by rw [HE.out.1, HE.out.2]; exact H4⟩
        · have hg : decide (p.1.a ≤ cut) = false := decide_eq_false hle
          have HE := Lib.hid (show lowL cl cut (L.take (k + 1)) = lowL cl cut (L.take k) ∧ highL cl cut (L.take (k + 1)) = highL cl cut (L.take k) ++ [p] from by rw [← hex.out]; exact high_push _ _ (by rw [HX.out]; exact hle))
          clear hle
          go_wp2_with (at_builtin; refine wpList_append_any _ rfl (.tmp 27) (.tmp 29) _ rfl w.heap.size 87 i0 _ 5 40 Try.underlying78 hi0 hz0 hz1 hz2 rfl (by omega) _ _ _ rfl (H1.out.hi.keep ((Keep.refl No _).alloc _) (fun _ _ x => x)) 0 _ 1 1 (encC p) rfl (rec_at _ rfl rfl) (encC_one p) (by have := HLN.out; simp only [maxLen]; omega) (by have := HLN.out; omega) (by have := HS.out.kp.size; simp; omega) ?_; intro v4 w4 hown4 hg4 hat4; have H4 := Lib.hid (H1.out.pushhi hown4 hg4 hat4); clear hown4 hg4 hat4)
          go_roundg (L.length - (k + 1))
          case measure => omega
          case rel => exact ⟨k + 1, by go_num, by omega, by omega, by rw [HE.out.1, HE.out.2]; exact H4⟩
      · obtain rfl : k = L.length := by omega
        have HF := Lib.hid (show SpSt B w wr (.slice A L.length c) L u6 (lowL cl cut L) u7 (highL cl cut L) from by have := HS.out; rwa [List.take_length] at this)
        clear HS
        go_wp2_with fail
        go_ret2
        exact ⟨_, _, rfl, HF.out⟩
  · have HCL := Lib.hid hcl
    clear hcl
    go_enter Try.func49, Try.ntmps49
    go_wp2_with fail
    go_loopg [6, 7, 12] L.length (fun kx s6 s7 s12 wr => ∃ k : Nat, s12 = .int .i64 k ∧ k ≤ L.length ∧ L.length ≤ k + kx ∧ Hid (SpSt B w wr (.slice A L.length c) L s6 (lowL cl cut (L.take k)) s7 (highL cl cut (L.take k))))
    case atStart => exact ⟨0, rfl, Nat.zero_le _, by omega, H0⟩
    case round =>
      clear H0
      obtain ⟨k, rfl, hk, hkx, HS⟩ := hrel
      by_cases hlt : k < L.length
      · obtain ⟨g', rfl, hcell⟩ := HS.out.cn.at_ hlt
        have e0 := hcell 0 _ rfl
        rw [Nat.add_zero] at e0
        have e1 := hcell 1 _ rfl
        have e2 := hcell 2 _ rfl
        have e3 := hcell 3 _ rfl
        have e4 := hcell 4 _ rfl
        have hex := Lib.hid (List.take_append_getElem hlt)
        clear hcell
        generalize L[k] = p at *
        have i0' : (0 : Int) ≤ (k : Int) := by omega
        have i1 : (k : Int) < (L.length : Int) := by omega
        have H1 := Lib.hid (HS.out.new_ ((Keep.refl No wr).alloc (.cells (encC p).toArray 87)))
        have HX := Lib.hid (show p.1.x cl = p.1.b from by rw [HCL.out]; rfl)
        have HLN := Lib.hid (show (lowL cl cut (L.take k)).length ≤ 500 ∧ (highL cl cut (L.take k)).length ≤ 500 from by
          have h1 := List.length_filter_le (fun p : Row × Nat => decide (p.1.x cl ≤ cut)) (L.take k)
          have h2 := List.length_filter_le (fun p : Row × Nat => !decide (p.1.x cl ≤ cut)) (L.take k)
          rw [List.length_take] at h1 h2
          unfold lowL highL
          omega)
        by_cases hle : p.1.b ≤ cut
        · have hg : decide (p.1.b ≤ cut) = true := decide_eq_true hle
          have HE := Lib.hid (show lowL cl cut (L.take (k + 1)) = lowL cl cut (L.take k) ++ [p] ∧ highL cl cut (L.take (k + 1)) = highL cl cut (L.take k) from by rw [← hex.out]; exact low_push _ _ (by rw [HX.out]; exact hle))
          clear hle
          go_wp2_with (at_builtin; refine wpList_append_any _ rfl (.tmp 23) (.tmp 25) _ rfl w.heap.size 87 i0 _ 5 40 Try.underlying78 hi0 hz0 hz1 hz2 rfl (by omega) _ _ _ rfl (H1.out.lo.keep ((Keep.refl No _).alloc _) (fun _ _ x => x)) 0 _ 1 1 (encC p) rfl (rec_at _ rfl rfl) (encC_one p) (by have := HLN.out; simp only [maxLen]; omega) (by have := HLN.out; omega) (by have := HS.out.kp.size; simp; omega) ?_; intro v4 w4 hown4 hg4 hat4; have H4 := Lib.hid (H1.out.pushlo hown4 hg4 hat4); clear hown4 hg4 hat4)
          go_roundg (L.length - (k + 1))
          case measure => omega
          case rel => exact ⟨k + 1, by go_num, by omega, by omega, by rw [HE.out.1, HE.out.2]; exact H4⟩
        · have hg : decide (p.1.b ≤ cut) = false := decide_eq_false hle
          have HE := Lib.hid (show lowL cl cut (L.take (k + 1)) = lowL cl cut (L.take k) ∧ highL cl cut (L.take (k + 1)) = highL cl cut (L.take k) ++ [p] from by rw [← hex.out]; exact high_push _ _ (by rw [HX.out]; exact hle))
          clear hle
          go_wp2_with (at_builtin; refine wpList_append_any _ rfl (.tmp 27) (.tmp 29) _ rfl w.heap.size 87 i0 _ 5 40 Try.underlying78 hi0 hz0 hz1 hz2 rfl (by omega) _ _ _ rfl (H1.out.hi.keep ((Keep.refl No _).alloc _) (fun _ _ x => x)) 0 _ 1 1 (encC p) rfl (rec_at _ rfl rfl) (encC_one p) (by have := HLN.out; simp only [maxLen]; omega) (by have := HLN.out; omega) (by have := HS.out.kp.size; simp; omega) ?_; intro v4 w4 hown4 hg4 hat4; have H4 := Lib.hid (H1.out.pushhi hown4 hg4 hat4); clear hown4 hg4 hat4)
          go_roundg (L.length - (k + 1))
          case measure => omega
          case rel => exact ⟨k + 1, by go_num, by omega, by omega, by rw [HE.out.1, HE.out.2]; exact H4⟩
      · obtain rfl : k = L.length := by omega
        have HF := Lib.hid (show SpSt B w wr (.slice A L.length c) L u6 (lowL cl cut L) u7 (highL cl cut L) from by have := HS.out; rwa [List.take_length] at this)
        clear HS
        go_wp2_with fail
        go_ret2
        exact ⟨_, _, rfl, HF.out⟩
  · have HCL := Lib.hid hcl
    clear hcl
    go_enter Try.func49, Try.ntmps49
    go_wp2_with fail
    go_loopg [6, 7, 12] L.length (fun kx s6 s7 s12 wr => ∃ k : Nat, s12 = .int .i64 k ∧ k ≤ L.length ∧ L.length ≤ k + kx ∧ Hid (SpSt B w wr (.slice A L.length c) L s6 (lowL cl cut (L.take k)) s7 (highL cl cut (L.take k))))
    case atStart => exact ⟨0, rfl, Nat.zero_le _, by omega, H0⟩
    case round =>
      clear H0
      obtain ⟨k, rfl, hk, hkx, HS⟩ := hrel
      by_cases hlt : k < L.length
      · obtain ⟨g', rfl, hcell⟩ := HS.out.cn.at_ hlt
        have e0 := hcell 0 _ rfl
        rw [Nat.add_zero] at e0
        have e1 := hcell 1 _ rfl
        have e2 := hcell 2 _ rfl
        have e3 := hcell 3 _ rfl
        have e4 := hcell 4 _ rfl
        have hex := Lib.hid (List.take_append_getElem hlt)
        clear hcell
        generalize L[k] = p at *
        have i0' : (0 : Int) ≤ (k : Int) := by omega
        have i1 : (k : Int) < (L.length : Int) := by omega
        have H1 := Lib.hid (HS.out.new_ ((Keep.refl No wr).alloc (.cells (encC p).toArray 87)))
        have HX := Lib.hid (show p.1.x cl = p.1.c from by rw [HCL.out]; rfl)
        have HLN := Lib.hid (show (lowL cl cut (L.take k)).length ≤ 500 ∧ (highL cl cut (L.take k)).length ≤ 500 from by
          have h1 := List.length_filter_le (fun p : Row × Nat => decide (p.1.x cl ≤ cut)) (L.take k)
          have h2 := List.length_filter_le (fun p : Row × Nat => !decide (p.1.x cl ≤ cut)) (L.take k)
          rw [List.length_take] at h1 h2
          unfold lowL highL
          omega)
        by_cases hle : p.1.c ≤ cut
        · have hg : decide (p.1.c ≤ cut) = true := decide_eq_true hle
          have HE := Lib.hid (show lowL cl cut (L.take (k + 1)) = lowL cl cut (L.take k) ++ [p] ∧ highL cl cut (L.take (k + 1)) = highL cl cut (L.take k) from by rw [← hex.out]; exact low_push _ _ (by rw [HX.out]; exact hle))
          clear hle
          go_wp2_with (at_builtin; refine wpList_append_any _ rfl (.tmp 23) (.tmp 25) _ rfl w.heap.size 87 i0 _ 5 40 Try.underlying78 hi0 hz0 hz1 hz2 rfl (by omega) _ _ _ rfl (H1.out.lo.keep ((Keep.refl No _).alloc _) (fun _ _ x => x)) 0 _ 1 1 (encC p) rfl (rec_at _ rfl rfl) (encC_one p) (by have := HLN.out; simp only [maxLen]; omega) (by have := HLN.out; omega) (by have := HS.out.kp.size; simp; omega) ?_; intro v4 w4 hown4 hg4 hat4; have H4 := Lib.hid (H1.out.pushlo hown4 hg4 hat4); clear hown4 hg4 hat4)
          go_roundg (L.length - (k + 1))
          case measure => omega
          case rel => exact ⟨k + 1, by go_num, by omega, by omega, by rw [HE.out.1, HE.out.2]; exact H4⟩
        · have hg : decide (p.1.c ≤ cut) = false := decide_eq_false hle
          have HE := Lib.hid (show lowL cl cut (L.take (k + 1)) = lowL cl cut (L.take k) ∧ highL cl cut (L.take (k + 1)) = highL cl cut (L.take k) ++ [p] from by rw [← hex.out]; exact high_push _ _ (by rw [HX.out]; exact hle))
          clear hle
          go_wp2_with (at_builtin; refine wpList_append_any _ rfl (.tmp 27) (.tmp 29) _ rfl w.heap.size 87 i0 _ 5 40 Try.underlying78 hi0 hz0 hz1 hz2 rfl (by omega) _ _ _ rfl (H1.out.hi.keep ((Keep.refl No _).alloc _) (fun _ _ x => x)) 0 _ 1 1 (encC p) rfl (rec_at _ rfl rfl) (encC_one p) (by have := HLN.out; simp only [maxLen]; omega) (by have := HLN.out; omega) (by have := HS.out.kp.size; simp; omega) ?_; intro v4 w4 hown4 hg4 hat4; have H4 := Lib.hid (H1.out.pushhi hown4 hg4 hat4); clear hown4 hg4 hat4)
          go_roundg (L.length - (k + 1))
          case measure => omega
          case rel => exact ⟨k + 1, by go_num, by omega, by omega, by rw [HE.out.1, HE.out.2]; exact H4⟩
      · obtain rfl : k = L.length := by omega
        have HF := Lib.hid (show SpSt B w wr (.slice A L.length c) L u6 (lowL cl cut L) u7 (highL cl cut L) from by have := HS.out; rwa [List.take_length] at this)
        clear HS
        go_wp2_with fail
        go_ret2
        exact ⟨_, _, rfl, HF.out⟩
theorem split_any {B : Nat} {w : World} {v : Value} {L : List (Row × Nat)} (col : Nat) (cut : Int) (hC : Cnt B w v L) (hcol : col < 3) (hL : L.length ≤ 500) :
    Calls Try.prog 49 #[v, .int .i64 (col : Nat), .int .i64 cut] w fun e w' => ∃ lv hv, e = .returned (.tuple #[lv, hv]) ∧ SpSt B w w' v L lv (lowL col cut L) hv (highL col cut L) := split_at col col rfl cut hC hcol hL
end Go.Proofs.Ytgabidgpngiecaa
