/- Contracts of learn's labels.add, slices.Contains and Vote. Conditions: each names its own. -/
import Derived.Test.YtgabidgpngiecaaLV1
import Derived.Test.YtgabidgpngiecaaLP5
import Derived.Test.YtgabidgpngiecaaLI0
import Derived.Deep.CutBlock
namespace Go.Proofs.Ytgabidgpngiecaa
open Go.RowKit Go.Proofs.YtgabidgpngiecaaKit Go.Proofs.YtgabidgpngiecaaPlain Go.Sort

/-- A count of a label is raised; the labels lie from place o on in block g. -/
theorem ladd_any {w : World} {g o : Nat} {t : TypeId} {cs : Array Value} {c : Int} (r : Row) (n : Int) (hr : okRow r) (h : Blk w g t cs) (lab : Nat) (hl : r.l = (lab : Nat)) (hc : cs[o + lab]? = some (.int .i64 c)) (hn : 0 ≤ n) (hn2 : n ≤ 1000) (h0 : 0 ≤ c) (h1 : c ≤ 1000000) :
    Calls Try.prog 41 #[.pointer (some ⟨g, o, none⟩), r.v, .int .i64 n] w fun e w' => e = .returned (.tuple #[]) ∧ Blk w' g t (cs.setIfInBounds (o + lab) (.int .i64 (c + n))) ∧ Keep (fun b => b = g) w w' := by
  obtain ⟨_, _, _, hl0, hl8⟩ := hr
  have j0 : (0 : Int) ≤ (lab : Int) := by omega
  have j1 : (lab : Int) < 8 := by omega
  have q1 : decide ((lab : Int) < 0) = false := decide_eq_false (by omega)
  have q2 : decide ((8 : Int) ≤ (lab : Int)) = false := decide_eq_false (by omega)
  have B0 := (Blk.new w 33 #[.int .i64 r.a, .int .i64 r.b, .int .i64 r.c, .int .i64 r.l])
  have h1' := Blk.alloc h (.cells #[.int .i64 r.a, .int .i64 r.b, .int .i64 r.c, .int .i64 r.l] 33)
  have k0 := (Keep.refl (fun b => b = g) w).alloc (.cells #[.int .i64 r.a, .int .i64 r.b, .int .i64 r.c, .int .i64 r.l] 33)
  have f3 := B0.cell 3
  have fg := h1'.cell (o + lab)
  have zg := h1'.frozen (o + lab)
  simp only [List.getElem?_toArray, List.getElem?_cons_zero, List.getElem?_cons_succ] at f3
  rw [hl] at f3
  rw [hc] at fg
  have HH := Lib.hid h1'
  have HK := Lib.hid k0
  clear h h1' k0 B0 hc
  unfold Row.v
  rw [hl] at *
  clear hl hl0 hl8
  go_enter Try.func41, Try.ntmps41
  go_wp2_with fail
  generalize w.alloc (.cells #[.int .i64 r.a, .int .i64 r.b, .int .i64 r.c, .int .i64 (lab : Int)] 33) = w0 at *
  go_region
  all_goals
    go_wp2
    go_end0
    exact ⟨rfl, HH.out.drew.set_ (o + lab) _, HK.out.drew.setCell (p := ⟨g, o + lab, none⟩) (.inl rfl) _⟩

/-! ### Numbers in a row of the call's own -/
def intsV (xs : List Int) : List Value := xs.map (Value.int .i64)
def OI (B : Nat) (w : World) (v : Value) (xs : List Int) : Prop := w.ownsRow B 3 1 v xs.length (intsV xs)
theorem OI.keep {B : Nat} {w w1 : World} {v : Value} {xs : List Int} {S : Nat → Prop} (h : OI B w v xs) (hk : Keep S w w1) (hs : ∀ k, v.ownBlock = some k → ¬ S k) : OI B w1 v xs := own_keep h hk hs
theorem OI.at_ {B : Nat} {w : World} {A : Option Addr} {c : Nat} {xs : List Int} (h : OI B w (.slice A xs.length c) xs) {k : Nat} (hk : k < xs.length) : ∃ g, A = some ⟨g, 0, none⟩ ∧ g < w.heap.size ∧ w.cell? ⟨g, k, none⟩ = some (.int .i64 xs[k]) := by
  obtain ⟨h1, ⟨h2, h3⟩ | ⟨g', cap, cur, h2, _, hg, hn, _, hcs, htake⟩⟩ := h
  · omega
  · injection h2 with h2 _ _
    refine ⟨g', h2, Blk.lt (w := w) (cs := cur) hg, ?_⟩
    rw [Blk.cell (w := w) (cs := cur) hg, ← Array.getElem?_toList]
    have h3 : (intsV xs)[k]? = some (.int .i64 xs[k]) := by simp [intsV, hk]
    rw [← htake, List.getElem?_take, if_pos (by omega)] at h3
    exact h3
theorem info_int : (Try.prog.info? 3).map (fun i => (i.zero, i.size, i.bytes)) = some (some (.int .i64 0), 1, 8) := by kernel_rfl
theorem intsV_push (xs : List Int) (x : Int) : intsV xs ++ [.int .i64 x] = intsV (xs ++ [x]) := by simp [intsV]

set_option maxHeartbeats 1000000 in
theorem index_any {B : Nat} {w : World} {v : Value} {xs : List Int} (x : Int) (h : OI B w v xs) (hl : xs.length ≤ 1000) :
    Calls Try.prog 58 #[v, .int .i64 x] w fun e w' => ∃ i : Int, e = .returned (.int .i64 i) ∧ (0 ≤ i ↔ x ∈ xs) ∧ w = w' := by
  obtain ⟨A, c, rfl, _⟩ := own_shape h
  have HO := Lib.hid h
  clear h
  go_enter Try.func58, Try.ntmps58
  go_wp2
  go_loopw [8] (fun v8 wr => ∃ k : Nat, k ≤ xs.length ∧ v8 = .int .i64 k ∧ Hid (x ∉ xs.take k) ∧ wr = w) (fun i _ => xs.length - (intOf i).toNat)
  case atStart => exact ⟨0, Nat.zero_le _, rfl, Lib.hid (by simp), rfl⟩
  case round =>
    obtain ⟨k, hk, rfl, hI, rfl⟩ := hrel
    by_cases hlt : k < xs.length
    · obtain ⟨g, rfl, _, e0⟩ := HO.out.at_ hlt
      have hex := Lib.hid (List.take_append_getElem hlt)
      have hmem := Lib.hid (List.getElem_mem hlt)
      have j0 : (0 : Int) ≤ (k : Int) := by omega
      have j1 : (k : Int) < (xs.length : Int) := by omega
      generalize xs[k] = y at *
      by_cases hxy : x = y
      · subst hxy
        go_wp2
        go_ret
        exact ⟨k, rfl, ⟨fun _ => hmem.out, fun _ => by omega⟩, rfl⟩
      · have hq : (x == y) = false := by simp [hxy]
        have HN := Lib.hid hxy
        clear hxy
        go_wp2
        go_roundw
        case rel => exact ⟨k + 1, by omega, by go_num, Lib.hid (by rw [← hex.out]; simp [hI.out, HN.out]), by trivial⟩
        case measure => simp [intOf]; omega
    · have hkL : k = xs.length := by omega
      subst hkL
      rw [List.take_length] at hI
      have j1 : (xs.length : Int) ≤ (xs.length : Int) := Int.le_refl _
      go_wp2
      go_ret
      exact ⟨-1, rfl, ⟨fun h => by omega, fun h => absurd h hI.out⟩, rfl⟩

set_option maxHeartbeats 1000000 in
theorem contains_any {B : Nat} {w : World} {v : Value} {xs : List Int} (x : Int) (h : OI B w v xs) (hl : xs.length ≤ 1000) :
    Calls Try.prog 40 #[v, .int .i64 x] w fun e w' => e = .returned (.bool (decide (x ∈ xs))) ∧ w = w' := by
  have HI := Lib.hid (index_any x h hl)
  clear h
  by_cases hx : x ∈ xs
  · have HE := Lib.hid (decide_eq_true hx)
    go_enter Try.func40, Try.ntmps40
    go_wp2_with (go_at_call 58; refine HI.out.mono ?_; rintro e w' ⟨i, rfl, hi, rfl⟩; have hi0 : 0 ≤ i := hi.2 hx)
    go_ret
    exact ⟨ret_bool HE.out.symm, rfl⟩
  · have HE := Lib.hid (decide_eq_false hx)
    go_enter Try.func40, Try.ntmps40
    go_wp2_with (go_at_call 58; refine HI.out.mono ?_; rintro e w' ⟨i, rfl, hi, rfl⟩; have hi0 : ¬ 0 ≤ i := fun h => hx (hi.1 h))
    go_ret
    exact ⟨ret_bool HE.out.symm, rfl⟩
end Go.Proofs.Ytgabidgpngiecaa
