/- slices.SortFunc of learn's counted rows (sortLays is printed by wip/l4.py). Conditions: each names its own. -/
import Derived.Test.YtgabidgpngiecaaL2
import Derived.Shelf.SlSortCmp.NoneTotal
namespace Go.Proofs.Ytgabidgpngiecaa
open Go.RowKit Go.Proofs.YtgabidgpngiecaaKit Go.Proofs.YtgabidgpngiecaaPlain Go.Sort Go.Proofs Go.Shelf

def sortRen : Go.Shelf.Ren := ⟨fun | 6 => 54 | 14 => 64 | 15 => 65 | 20 => 68 | 21 => 71 | 22 => 72 | 23 => 73 | 24 => 74 | 25 => 75 | 26 => 76 | 27 => 77 | 28 => 78 | 29 => 79 | 46 => 90 | 47 => 91 | 48 => 92 | 49 => 93 | 50 => 94 | 57 => 99 | n => n, fun | 0 => 0 | 3 => 3 | 4 => 4 | 5 => 5 | 9 => 9 | 22 => 78 | 25 => 92 | 39 => 110 | 45 => 129 | 46 => 130 | 50 => 134 | 53 => 137 | 55 => 139 | 66 => 146 | 70 => 150 | 76 => 154 | 77 => 99 | 24 => 87 | n => n, fun n => n⟩
theorem sortLays : SlLaysF0.n6 Try.prog sortRen := {
  mixed := by kernel_rfl
  f6 := ⟨Try.f54.name, by decide, Try.func54.trans (congrArg some (by kernel_rfl))⟩
  f14 := ⟨Try.f64.name, by decide, Try.func64.trans (congrArg some (by kernel_rfl))⟩
  f15 := Try.func65.trans (congrArg some (by kernel_rfl))
  f20 := ⟨Try.f68.name, by decide, Try.func68.trans (congrArg some (by kernel_rfl))⟩
  f21 := ⟨Try.f71.name, by decide, Try.func71.trans (congrArg some (by kernel_rfl))⟩
  f22 := ⟨Try.f72.name, by decide, Try.func72.trans (congrArg some (by kernel_rfl))⟩
  f23 := ⟨Try.f73.name, by decide, Try.func73.trans (congrArg some (by kernel_rfl))⟩
  f24 := ⟨Try.f74.name, by decide, Try.func74.trans (congrArg some (by kernel_rfl))⟩
  f25 := ⟨Try.f75.name, by decide, Try.func75.trans (congrArg some (by kernel_rfl))⟩
  f26 := ⟨Try.f76.name, by decide, Try.func76.trans (congrArg some (by kernel_rfl))⟩
  f27 := ⟨Try.f77.name, by decide, Try.func77.trans (congrArg some (by kernel_rfl))⟩
  f28 := Try.func78.trans (congrArg some (by kernel_rfl))
  f29 := Try.func79.trans (congrArg some (by kernel_rfl))
  f46 := ⟨Try.f90.name, by decide, Try.func90.trans (congrArg some (by kernel_rfl))⟩
  f47 := Try.func91.trans (congrArg some (by kernel_rfl))
  f48 := Try.func92.trans (congrArg some (by kernel_rfl))
  f49 := ⟨Try.f93.name, by decide, Try.func93.trans (congrArg some (by kernel_rfl))⟩
  f50 := ⟨Try.f94.name, by decide, Try.func94.trans (congrArg some (by kernel_rfl))⟩
  f57 := ⟨Try.f99.name, by decide, Try.func99.trans (congrArg some (by kernel_rfl))⟩
  t0 := Try.underlying0, a0 := Try.isAgg0, z0 := Try.sizeOf0, v0 := Try.zeroValue0
  t3 := Try.underlying3, a3 := Try.isAgg3, z3 := Try.sizeOf3, v3 := Try.zeroValue3
  t4 := Try.underlying4, a4 := Try.isAgg4, z4 := Try.sizeOf4, v4 := Try.zeroValue4
  t5 := Try.underlying5, a5 := Try.isAgg5, z5 := Try.sizeOf5, v5 := Try.zeroValue5
  t9 := Try.underlying9, a9 := Try.isAgg9, z9 := Try.sizeOf9, v9 := Try.zeroValue9
  t22 := Try.underlying78, a22 := Try.isAgg78, z22 := Try.sizeOf78, v22 := Try.zeroValue78
  t25 := Try.underlying92, a25 := Try.isAgg92, z25 := Try.sizeOf92, v25 := Try.zeroValue92
  t39 := Try.underlying110, a39 := Try.isAgg110, z39 := Try.sizeOf110, v39 := Try.zeroValue110
  t45 := Try.underlying129, a45 := Try.isAgg129, z45 := Try.sizeOf129, v45 := Try.zeroValue129
  t46 := Try.underlying130, a46 := Try.isAgg130, z46 := Try.sizeOf130, v46 := Try.zeroValue130
  t50 := Try.underlying134, a50 := Try.isAgg134, z50 := Try.sizeOf134, v50 := Try.zeroValue134
  t53 := Try.underlying137, a53 := Try.isAgg137, z53 := Try.sizeOf137, v53 := Try.zeroValue137
  t55 := Try.underlying139, a55 := Try.isAgg139, z55 := Try.sizeOf139, v55 := Try.zeroValue139
  t66 := Try.underlying146, a66 := Try.isAgg146, z66 := Try.sizeOf146, v66 := Try.zeroValue146
  t70 := Try.underlying150, a70 := Try.isAgg150, z70 := Try.sizeOf150, v70 := Try.zeroValue150
  t76 := Try.underlying154, a76 := Try.isAgg154, z76 := Try.sizeOf154, v76 := Try.zeroValue154
  t77 := Try.underlying99, a77 := Try.isAgg99, z77 := Try.sizeOf99, v77 := Try.zeroValue99
}

/-! ### The order of rows -/
def lexLt (r s : Row) : Prop := r.a < s.a ∨ (r.a = s.a ∧ (r.b < s.b ∨ (r.b = s.b ∧ (r.c < s.c ∨ (r.c = s.c ∧ r.l < s.l)))))
theorem or2_neg (x y : Int) : or2 x y < 0 ↔ x < 0 ∨ (x = 0 ∧ y < 0) := by
  unfold or2
  split <;> constructor <;> intro h <;> omega
theorem or2_zero (x y : Int) : or2 x y = 0 ↔ x = 0 ∧ y = 0 := by
  unfold or2
  split <;> constructor <;> intro h <;> omega
theorem cmpI_neg (x y : Int) : cmpI x y < 0 ↔ x < y := by
  unfold cmpI
  split
  · constructor <;> intro h <;> omega
  · split <;> constructor <;> intro h <;> omega
theorem cmpI_zero (x y : Int) : cmpI x y = 0 ↔ x = y := by
  unfold cmpI
  split
  · constructor <;> intro h <;> omega
  · split <;> constructor <;> intro h <;> omega
theorem rowCmp_neg (r s : Row) : rowCmp r s < 0 ↔ lexLt r s := by
  unfold rowCmp cmp3 lexLt
  simp only [or2_neg, or2_zero, cmpI_neg, cmpI_zero]
  omega
def cfC (p q : Row × Nat) : Int := rowCmp p.1 q.1
theorem swoC : SWO (ltOf cfC) where
  irrefl x := by unfold ltOf cfC; rw [decide_eq_false_iff_not, rowCmp_neg]; unfold lexLt; omega
  trans x y z := by
    unfold ltOf cfC
    simp only [decide_eq_true_eq, rowCmp_neg]
    unfold lexLt
    omega
  ntrans x y z := by
    unfold ltOf cfC
    simp only [decide_eq_false_iff_not, rowCmp_neg]
    unfold lexLt
    omega

/-! ### Slices of counted rows -/
def cells5 (L : List (Row × Nat)) : List Value := (L.map encC).flatten
theorem encC_length (p : Row × Nat) : (encC p).length = 5 := rfl
theorem encC_one (p : Row × Nat) : ∀ u ∈ encC p, u.oneCell' = true := by
  intro u hu
  simp [encC] at hu
  rcases hu with rfl | rfl | rfl | rfl | rfl <;> rfl
theorem cells5_length : ∀ L : List (Row × Nat), (cells5 L).length = L.length * 5
  | [] => rfl
  | p :: L => by
    have := cells5_length L
    unfold cells5 at *
    rw [List.map_cons, List.flatten_cons, List.length_append, encC_length, this, List.length_cons]
    omega
theorem cells5_push (L : List (Row × Nat)) (p : Row × Nat) : cells5 L ++ encC p = cells5 (L ++ [p]) := by simp [cells5]
theorem cells5_get : ∀ (L : List (Row × Nat)) (t : Nat), t < L.length * 5 → (cells5 L)[t]? = some ((encC L[t / 5]!)[t % 5]!)
  | [], t, h => by simp at h
  | p :: L, t, h => by
    have e : cells5 (p :: L) = encC p ++ cells5 L := by simp [cells5]
    rw [e]
    by_cases ht : t < 5
    · rw [List.getElem?_append_left (by rw [encC_length]; exact ht), Nat.div_eq_of_lt ht, Nat.mod_eq_of_lt ht]
      simp only [List.getElem!_cons_zero]
      rw [getElem!_pos _ t (by rw [encC_length]; exact ht)]
      exact List.getElem?_eq_getElem _
    · obtain ⟨u, rfl⟩ : ∃ u, t = u + 5 := ⟨t - 5, by omega⟩
      rw [List.getElem?_append_right (by rw [encC_length]; omega), encC_length, Nat.add_sub_cancel, cells5_get L u (by simp at h; omega), Nat.add_div_right _ (by omega), Nat.add_mod_right]
      simp
theorem flat5 (L : List (Row × Nat)) : flatK encC 5 L.toArray = (cells5 L).toArray := by
  apply Array.ext_getElem?
  intro t
  by_cases ht : t < L.length * 5
  · have h1 : (cells5 L).toArray[t]? = some ((encC L[t / 5]!)[t % 5]!) := by rw [List.getElem?_toArray, cells5_get L t ht]
    rw [h1]
    have := get_flatK encC 5 L.toArray t (by simpa using ht)
    rw [getElem!_pos _ t (by simpa using ht)] at this
    rw [Array.getElem?_eq_getElem (by simpa using ht), this]
    simp
  · rw [Array.getElem?_eq_none (by simp; omega), Array.getElem?_eq_none (by simp [cells5_length]; omega)]
/-- The slice v holds the counted rows L, in a block from B on. -/
def Cnt (B : Nat) (w : World) (v : Value) (L : List (Row × Nat)) : Prop := w.ownsRow B 87 5 v L.length (cells5 L)
theorem Cnt.keep {B : Nat} {w w' : World} {v : Value} {L : List (Row × Nat)} {S : Nat → Prop} (h : Cnt B w v L) (hk : Keep S w w') (hs : ∀ k, v.ownBlock = some k → ¬ S k) : Cnt B w' v L := own_keep h hk hs
theorem Cnt.lt {B : Nat} {w : World} {v : Value} {L : List (Row × Nat)} (h : Cnt B w v L) : ∀ k, v.ownBlock = some k → B ≤ k ∧ k < w.heap.size := World.ownsRow.lt h

/-- A row of a block, laid anew: the block's cells. -/
theorem putRow_block {w : World} {g : Nat} {t : TypeId} {cur : Array Value} (h : Blk w g t cur) (n : Nat) (F : Array Value) (os : Array Obj) : Blk (grow (putRow id (Sort.ahead w n) g 0 F) os) g t (putCells id 0 F cur) := by
  have hlt := h.lt
  unfold Blk at *
  unfold grow putRow mapBlock Sort.ahead
  simp only []
  rw [Array.getElem?_append_left (by simpa using hlt), Array.getElem?_modify, if_pos rfl, h]
  rfl
theorem putRow_keep (w : World) (g n : Nat) (F : Array Value) (os : Array Obj) : Keep (fun b => b = g) w (grow (putRow id (Sort.ahead w n) g 0 F) os) := by
  refine ⟨rfl, rfl, rfl, by simp [grow, putRow, mapBlock, Sort.ahead], fun k hk hn => ?_⟩
  unfold grow putRow mapBlock Sort.ahead
  simp only []
  rw [Array.getElem?_append_left (by simpa using hk), Array.getElem?_modify, if_neg (fun e => hn e.symm)]
theorem putCells_take (F cur : Array Value) (h : F.size ≤ cur.size) : (putCells id 0 F cur).toList.take F.size = F.toList := by
  apply List.ext_getElem?
  intro k
  rw [List.getElem?_take]
  by_cases hk : k < F.size
  · rw [if_pos hk]
    simp only [putCells, Array.getElem?_toList, Array.getElem?_mapIdx]
    rw [Array.getElem?_eq_getElem (show k < cur.size by omega), Option.map_some, if_pos ⟨Nat.zero_le _, by omega⟩, Nat.sub_zero, getElem!_pos F k hk, Array.getElem?_eq_getElem hk]
    rfl
  · rw [if_neg hk, Array.getElem?_toList, Array.getElem?_eq_none (by omega)]

set_option maxHeartbeats 1000000 in
theorem sort_any {B : Nat} {w : World} {v : Value} {L : List (Row × Nat)} (hC : Cnt B w v L) (hL : L.length < 4611686018427387904) :
    Calls Try.prog 54 #[v, .func (.func 55) #[] #[]] w fun e w' => e = .returned (.tuple #[]) ∧
      ∃ L', L'.Perm L ∧ L'.Pairwise (fun p q => ¬ lexLt q.1 p.1) ∧ Cnt B w' v L' ∧ Keep (fun b => v.ownBlock = some b) w w' := by
  by_cases hl : L.length = 0
  · have : L = [] := List.eq_nil_of_length_eq_zero hl
    subst this
    have hv : ∃ p cap, v = .slice p 0 cap := by
      rcases hC.2 with ⟨h, _⟩ | ⟨g, cap, _, h, _⟩
      · exact ⟨_, _, h⟩
      · exact ⟨_, _, h⟩
    obtain ⟨p, cap, rfl⟩ := hv
    refine (AnyF.slices_SortFunc_none sortLays p cap _ w).mono ?_
    rintro e w' ⟨rfl, rfl⟩
    exact ⟨rfl, [], List.Perm.refl _, List.Pairwise.nil, hC, Keep.refl _ _⟩
  · obtain ⟨h0, ⟨_, h1⟩ | ⟨g, cap, cur, rfl, hB, hg, hn, hc, hcs, htake⟩⟩ := id hC
    · exact absurd h1 hl
    · have hblk : Blk w g 87 cur := hg
      have hH : HoldsK encC 5 w g 0 L.toArray := by
        intro j hj
        rw [size_flatK] at hj
        have hj' : j < L.length * 5 := by simpa using hj
        rw [Nat.zero_add, hblk.cell j, hblk.frozen j, get_flatK _ _ _ _ hj]
        refine ⟨?_, rfl⟩
        have h2 := cells5_get L j hj'
        rw [← htake, List.getElem?_take, if_pos hj', Array.getElem?_toList] at h2
        rw [h2]
        simp
      have hcmp : CmpLays Try.prog 55 #[] encC 5 cfC g 0 L.toArray.size w := fun m os dk _ x y => by
        refine (byrow_any x y _).mono ?_
        rintro e w' ⟨he, q, os', hw⟩
        exact ⟨he, q, os', hw⟩
      have eg : ∀ args w, (callFunc 55 args).run Try.prog w = .ok (.enter 55 args) w := enters_of Try.func55 (by kernel_rfl) rfl
      have hcon := AnyQ.slices_SortFunc sortLays 5 Try.isAgg87 Try.sizeOf87 encC encC_length encC_one cfC swoC 55 #[] g 0 cap L.toArray w eg hcmp hH hblk.lt (by simpa using hL)
      refine Calls.mono hcon ?_
      rintro e w' ⟨rfl, d', n, os, hp, hs, rfl⟩
      obtain ⟨hz, _, hperm⟩ := hp
      have e1 : L.toArray.size = L.length := by simp
      rw [e1] at hz hperm hs
      have hd : d'.toList.Perm L := by
        have e2 : (d'.extract 0 L.length).toList = d'.toList := by simp [← hz]
        have e3 : (L.toArray.extract 0 L.length).toList = L := by simp
        rw [e2, e3] at hperm
        exact hperm
      have hF : flatK encC 5 d' = (cells5 d'.toList).toArray := flat5 d'.toList
      refine ⟨rfl, d'.toList, hd, ?_, ?_, ?_⟩
      · rw [List.pairwise_iff_getElem]
        intro i j hi hj hij
        have := hs i j (Nat.zero_le _) hij (by simpa [hz] using hj)
        unfold ltOf cfC at this
        rw [decide_eq_false_iff_not, rowCmp_neg] at this
        rw [getElem!_pos d' j (by simpa using hj), getElem!_pos d' i (by simpa using hi)] at this
        simpa using this
      · refine ⟨cells5_length _, .inr ⟨g, cap, _, by rw [hd.length_eq], hB, putRow_block hblk n (flatK encC 5 d') os, by rw [hd.length_eq]; exact hn, hc, by simpa [putCells] using hcs, ?_⟩⟩
        have h3 := putCells_take (flatK encC 5 d') cur (by rw [size_flatK, hz, hcs]; exact Nat.mul_le_mul_right 5 hn)
        rw [size_flatK, hF] at h3
        rw [hF]
        simpa [Array.length_toList] using h3
      · exact (putRow_keep w g n (flatK encC 5 d') os).mono (fun b hb => by rw [hb]; rfl)
end Go.Proofs.Ytgabidgpngiecaa
