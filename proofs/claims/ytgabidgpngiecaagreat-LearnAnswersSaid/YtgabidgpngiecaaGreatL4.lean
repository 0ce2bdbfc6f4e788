/- slices.SortFunc of learn's counted rows (sortLays is printed by wip/l4.py). Conditions: each names its own. -/
import Derived.Test.YtgabidgpngiecaaGreatL2
import Derived.Shelf.SlSortCmp.NoneTotal
namespace Go.Proofs.YtgabidgpngiecaaGreat
open Go.RowKit Go.Proofs.YtgabidgpngiecaaGreatKit Go.Proofs.YtgabidgpngiecaaGreatPlain Go.Sort Go.Proofs Go.Shelf

def sortRen : Go.Shelf.Ren := ⟨fun | 6 => 56 | 14 => 70 | 15 => 71 | 20 => 75 | 21 => 78 | 22 => 79 | 23 => 80 | 24 => 81 | 25 => 82 | 26 => 83 | 27 => 84 | 28 => 85 | 29 => 86 | 46 => 97 | 47 => 98 | 48 => 99 | 49 => 100 | 50 => 101 | 57 => 106 | n => n, fun | 0 => 0 | 3 => 3 | 4 => 4 | 5 => 5 | 9 => 9 | 22 => 81 | 25 => 99 | 39 => 133 | 45 => 141 | 46 => 142 | 50 => 146 | 53 => 149 | 55 => 151 | 66 => 158 | 70 => 162 | 76 => 166 | 77 => 87 | 24 => 96 | n => n, fun n => n⟩
theorem sortLays : SlLaysF0.n6 Tryz.prog sortRen := {
  mixed := by kernel_rfl
  f6 := ⟨Tryz.f56.name, by decide, Tryz.func56.trans (congrArg some (by kernel_rfl))⟩
  f14 := ⟨Tryz.f70.name, by decide, Tryz.func70.trans (congrArg some (by kernel_rfl))⟩
  f15 := Tryz.func71.trans (congrArg some (by kernel_rfl))
  f20 := ⟨Tryz.f75.name, by decide, Tryz.func75.trans (congrArg some (by kernel_rfl))⟩
  f21 := ⟨Tryz.f78.name, by decide, Tryz.func78.trans (congrArg some (by kernel_rfl))⟩
  f22 := ⟨Tryz.f79.name, by decide, Tryz.func79.trans (congrArg some (by kernel_rfl))⟩
  f23 := ⟨Tryz.f80.name, by decide, Tryz.func80.trans (congrArg some (by kernel_rfl))⟩
  f24 := ⟨Tryz.f81.name, by decide, Tryz.func81.trans (congrArg some (by kernel_rfl))⟩
  f25 := ⟨Tryz.f82.name, by decide, Tryz.func82.trans (congrArg some (by kernel_rfl))⟩
  f26 := ⟨Tryz.f83.name, by decide, Tryz.func83.trans (congrArg some (by kernel_rfl))⟩
  f27 := ⟨Tryz.f84.name, by decide, Tryz.func84.trans (congrArg some (by kernel_rfl))⟩
  f28 := Tryz.func85.trans (congrArg some (by kernel_rfl))
  f29 := Tryz.func86.trans (congrArg some (by kernel_rfl))
  f46 := ⟨Tryz.f97.name, by decide, Tryz.func97.trans (congrArg some (by kernel_rfl))⟩
  f47 := Tryz.func98.trans (congrArg some (by kernel_rfl))
  f48 := Tryz.func99.trans (congrArg some (by kernel_rfl))
  f49 := ⟨Tryz.f100.name, by decide, Tryz.func100.trans (congrArg some (by kernel_rfl))⟩
  f50 := ⟨Tryz.f101.name, by decide, Tryz.func101.trans (congrArg some (by kernel_rfl))⟩
  f57 := ⟨Tryz.f106.name, by decide, Tryz.func106.trans (congrArg some (by kernel_rfl))⟩
  t0 := Tryz.underlying0, a0 := Tryz.isAgg0, z0 := Tryz.sizeOf0, v0 := Tryz.zeroValue0
  t3 := Tryz.underlying3, a3 := Tryz.isAgg3, z3 := Tryz.sizeOf3, v3 := Tryz.zeroValue3
  t4 := Tryz.underlying4, a4 := Tryz.isAgg4, z4 := Tryz.sizeOf4, v4 := Tryz.zeroValue4
  t5 := Tryz.underlying5, a5 := Tryz.isAgg5, z5 := Tryz.sizeOf5, v5 := Tryz.zeroValue5
  t9 := Tryz.underlying9, a9 := Tryz.isAgg9, z9 := Tryz.sizeOf9, v9 := Tryz.zeroValue9
  t22 := Tryz.underlying81, a22 := Tryz.isAgg81, z22 := Tryz.sizeOf81, v22 := Tryz.zeroValue81
  t25 := Tryz.underlying99, a25 := Tryz.isAgg99, z25 := Tryz.sizeOf99, v25 := Tryz.zeroValue99
  t39 := Tryz.underlying133, a39 := Tryz.isAgg133, z39 := Tryz.sizeOf133, v39 := Tryz.zeroValue133
  t45 := Tryz.underlying141, a45 := Tryz.isAgg141, z45 := Tryz.sizeOf141, v45 := Tryz.zeroValue141
  t46 := Tryz.underlying142, a46 := Tryz.isAgg142, z46 := Tryz.sizeOf142, v46 := Tryz.zeroValue142
  t50 := Tryz.underlying146, a50 := Tryz.isAgg146, z50 := Tryz.sizeOf146, v50 := Tryz.zeroValue146
  t53 := Tryz.underlying149, a53 := Tryz.isAgg149, z53 := Tryz.sizeOf149, v53 := Tryz.zeroValue149
  t55 := Tryz.underlying151, a55 := Tryz.isAgg151, z55 := Tryz.sizeOf151, v55 := Tryz.zeroValue151
  t66 := Tryz.underlying158, a66 := Tryz.isAgg158, z66 := Tryz.sizeOf158, v66 := Tryz.zeroValue158
  t70 := Tryz.underlying162, a70 := Tryz.isAgg162, z70 := Tryz.sizeOf162, v70 := Tryz.zeroValue162
  t76 := Tryz.underlying166, a76 := Tryz.isAgg166, z76 := Tryz.sizeOf166, v76 := Tryz.zeroValue166
  t77 := Tryz.underlying87, a77 := Tryz.isAgg87, z77 := Tryz.sizeOf87, v77 := Tryz.zeroValue87
}

/-! ### The order of rows -/
def lexLt (r s : Row) : Prop := r.a < s.a ∨ (r.a = s.a ∧ (r.b < s.b ∨ (r.b = s.b ∧ (r.c < s.c ∨ (r.c = s.c ∧ r.l < s.l)))))
theorem or2_neg (x y : Int) : or2 x y < 0 ↔ x < 0 ∨ (x = 0 ∧ y < 0) := by
  unfold or2
  split <;> constructor <;> intro h <;> omega
theorem or2_zero (x y : Int) : or2 x y = 0 ↔ x = 0 ∧ y = 0 := by
  unfold or2
  split <;> constructor <;> intro h <;> omega
theorem cmpI_neg (x y : Int) : cmpI x y < 0 ↔ x < y := by
  unfold cmpI
  split
  · constructor <;> intro h <;> omega
  · split <;> constructor <;> intro h <;> omega
theorem cmpI_zero (x y : Int) : cmpI x y = 0 ↔ x = y := by
  unfold cmpI
  split
  · constructor <;> intro h <;> omega
  · split <;> constructor <;> intro h <;> omega
theorem rowCmp_neg (r s : Row) : rowCmp r s < 0 ↔ lexLt r s := by
  unfold rowCmp cmp3 lexLt
  simp only [or2_neg, or2_zero, cmpI_neg, cmpI_zero]
  omega
def cfC (p q : Row × Nat) : Int := rowCmp p.1 q.1
theorem swoC : SWO (ltOf cfC) where
  irrefl x := by unfold ltOf cfC; rw [decide_eq_false_iff_not, rowCmp_neg]; unfold lexLt; omega
  trans x y z := by
    unfold ltOf cfC
    simp only [decide_eq_true_eq, rowCmp_neg]
    unfold lexLt
    omega
  ntrans x y z := by
    unfold ltOf cfC
    simp only [decide_eq_false_iff_not, rowCmp_neg]
    unfold lexLt
    omega

/-! ### Slices of counted rows -/
def cells5 (L : List (Row × Nat)) : List Value := (L.map encC).flatten
theorem encC_length (p : Row × Nat) : (encC p).length = 5 := rfl
theorem encC_one (p : Row × Nat) : ∀ u ∈ encC p, u.oneCell' = true := by
  intro u hu
  simp [encC] at hu
  rcases hu with rfl | rfl | rfl | rfl | rfl <;> rfl
theorem cells5_length : ∀ L : List (Row × Nat), (cells5 L).length = L.length * 5
  | [] => rfl
  | p :: L => by
    have := cells5_length L
    unfold cells5 at *
    rw [List.map_cons, List.flatten_cons, List.length_append, encC_length, this, List.length_cons]
    omega
theorem cells5_push (L : List (Row × Nat)) (p : Row × Nat) : cells5 L ++ encC p = cells5 (L ++ [p]) := by simp [cells5]
theorem cells5_get : ∀ (L : List (Row × Nat)) (t : Nat), t < L.length * 5 → (cells5 L)[t]? = some ((encC L[t / 5]!)[t % 5]!)
  | [], t, h => by simp at h
  | p :: L, t, h => by
    have e : cells5 (p :: L) = encC p ++ cells5 L := by simp [cells5]
    rw [e]
    by_cases ht : t < 5
    · rw [List.getElem?_append_left (by rw [encC_length]; exact ht), Nat.div_eq_of_lt ht, Nat.mod_eq_of_lt ht]
      simp only [List.getElem!_cons_zero]
      rw [getElem!_pos _ t (by rw [encC_length]; exact ht)]
      exact List.getElem?_eq_getElem _
    · obtain ⟨u, rfl⟩ : ∃ u, t = u + 5 := ⟨t - 5, by omega⟩
      rw [List.getElem?_append_right (by rw [encC_length]; omega), encC_length, Nat.add_sub_cancel, cells5_get L u (by simp at h; omega), Nat.add_div_right _ (by omega), Nat.add_mod_right]
      simp
theorem flat5 (L : List (Row × Nat)) : flatK encC 5 L.toArray = (cells5 L).toArray := by
  apply Array.ext_getElem?
  intro t
  by_cases ht : t < L.length * 5
  · have h1 : (cells5 L).toArray[t]? = some ((encC L[t / 5]!)[t % 5]!) := by rw [List.getElem?_toArray, cells5_get L t ht]
    rw [h1]
    have := get_flatK encC 5 L.toArray t (by simpa using ht)
    rw [getElem!_pos _ t (by simpa using ht)] at this
    rw [Array.getElem?_eq_getElem (by simpa using ht), this]
    simp
  · rw [Array.getElem?_eq_none (by simp; omega), Array.getElem?_eq_none (by simp [cells5_length]; omega)]
/-- The slice v holds the counted rows L, in a block from B on. -/
def Cnt (B : Nat) (w : World) (v : Value) (L : List (Row × Nat)) : Prop := w.ownsRow B 96 5 v L.length (cells5 L)
theorem Cnt.keep {B : Nat} {w w' : World} {v : Value} {L : List (Row × Nat)} {S : Nat → Prop} (h : Cnt B w v L) (hk : Keep S w w') (hs : ∀ k, v.ownBlock = some k → ¬ S k) : Cnt B w' v L := own_keep h hk hs
theorem Cnt.lt {B : Nat} {w : World} {v : Value} {L : List (Row × Nat)} (h : Cnt B w v L) : ∀ k, v.ownBlock = some k → B ≤ k ∧ k < w.heap.size := World.ownsRow.lt h

/-- A row of a block, laid anew: the block's cells. -/
theorem putRow_block {w : World} {g : Nat} {t : TypeId} {cur : Array Value} (h : Blk w g t cur) (n : Nat) (F : Array Value) (os : Array Obj) : Blk (grow (putRow id (Sort.ahead w n) g 0 F) os) g t (putCells id 0 F cur) := by
  have hlt := h.lt
  unfold Blk at *
  unfold grow putRow mapBlock Sort.ahead
  simp only []
  rw [Array.getElem?_append_left (by simpa using hlt), Array.getElem?_modify, if_pos rfl, h]
  rfl
theorem putRow_keep (w : World) (g n : Nat) (F : Array Value) (os : Array Obj) : Keep (fun b => b = g) w (grow (putRow id (Sort.ahead w n) g 0 F) os) := by
  refine ⟨rfl, rfl, rfl, by simp [grow, putRow, mapBlock, Sort.ahead], fun k hk hn => ?_⟩
  unfold grow putRow mapBlock Sort.ahead
  simp only []
  rw [Array.getElem?_append_left (by simpa using hk), Array.getElem?_modify, if_neg (fun e => hn e.symm)]
theorem putCells_take (F cur : Array Value) (h : F.size ≤ cur.size) : (putCells id 0 F cur).toList.take F.size = F.toList := by
  apply List.ext_getElem?
  intro k
  rw [List.getElem?_take]
  by_cases hk : k < F.size
  · rw [if_pos hk]
    simp only [putCells, Array.getElem?_toList, Array.getElem?_mapIdx]
    rw [Array.getElem?_eq_getElem (show k < cur.size by omega), Option.map_some, if_pos ⟨Nat.zero_le _, by omega⟩, Nat.sub_zero, getElem!_pos F k hk, Array.getElem?_eq_getElem hk]
    rfl
  · rw [if_neg hk, Array.getElem?_toList, Array.getElem?_eq_none (by omega)]

set_option maxHeartbeats 1000000 in
theorem sort_any {B : Nat} {w : World} {v : Value} {L : List (Row × Nat)} (hC : Cnt B w v L) (hL : L.length < 4611686018427387904) :
    Calls Tryz.prog 56 #[v, .func (.func 57) #[] #[]] w fun e w' => e = .returned (.tuple #[]) ∧
      ∃ L', L'.Perm L ∧ L'.Pairwise (fun p q => ¬ lexLt q.1 p.1) ∧ Cnt B w' v L' ∧ Keep (fun b => v.ownBlock = some b) w w' := by
  by_cases hl : L.length = 0
  · have : L = [] := List.eq_nil_of_length_eq_zero hl
    subst this
    have hv : ∃ p cap, v = .slice p 0 cap := by
      rcases hC.2 with ⟨h, _⟩ | ⟨g, cap, _, h, _⟩
      · exact ⟨_, _, h⟩
      · exact ⟨_, _, h⟩
    obtain ⟨p, cap, rfl⟩ := hv
    refine (AnyF.slices_SortFunc_none sortLays p cap _ w).mono ?_
    rintro e w' ⟨rfl, rfl⟩
    exact ⟨rfl, [], List.Perm.refl _, List.Pairwise.nil, hC, Keep.refl _ _⟩
  · obtain ⟨h0, ⟨_, h1⟩ | ⟨g, cap, cur, rfl, hB, hg, hn, hc, hcs, htake⟩⟩ := id hC
    · exact absurd h1 hl
    · have hblk : Blk w g 96 cur := hg
      have hH : HoldsK encC 5 w g 0 L.toArray := by
        intro j hj
        rw [size_flatK] at hj
        have hj' : j < L.length * 5 := by simpa using hj
        rw [Nat.zero_add, hblk.cell j, hblk.frozen j, get_flatK _ _ _ _ hj]
        refine ⟨?_, rfl⟩
        have h2 := cells5_get L j hj'
        rw [← htake, List.getElem?_take, if_pos hj', Array.getElem?_toList] at h2
        rw [h2]
        simp
      have hcmp : CmpLays Tryz.prog 57 #[] encC 5 cfC g 0 L.toArray.size w := fun m os dk _ x y => by
        refine (byrow_any x y _).mono ?_
        rintro e w' ⟨he, q, os', hw⟩
        exact ⟨he, q, os', hw⟩
      have eg : ∀ args w, (callFunc 57 args).run Tryz.prog w = .ok (.enter 57 args) w := enters_of Tryz.func57 (by kernel_rfl) rfl
      have hcon := AnyQ.slices_SortFunc sortLays 5 Tryz.isAgg96 Tryz.sizeOf96 encC encC_length encC_one cfC swoC 57 #[] g 0 cap L.toArray w eg hcmp hH hblk.lt (by simpa using hL)
      refine Calls.mono hcon ?_
      rintro e w' ⟨rfl, d', n, os, hp, hs, rfl⟩
      obtain ⟨hz, _, hperm⟩ := hp
      have e1 : L.toArray.size = L.length := by simp
      rw [e1] at hz hperm hs
      have hd : d'.toList.Perm L := by
        have e2 : (d'.extract 0 L.length).toList = d'.toList := by simp [← hz]
        have e3 : (L.toArray.extract 0 L.length).toList = L := by simp
        rw [e2, e3] at hperm
        exact hperm
      have hF : flatK encC 5 d' = (cells5 d'.toList).toArray := flat5 d'.toList
      refine ⟨rfl, d'.toList, hd, ?_, ?_, ?_⟩
      · rw [List.pairwise_iff_getElem]
        intro i j hi hj hij
        have := hs i j (Nat.zero_le _) hij (by simpa [hz] using hj)
        unfold ltOf cfC at this
        rw [decide_eq_false_iff_not, rowCmp_neg] at this
        rw [getElem!_pos d' j (by simpa using hj), getElem!_pos d' i (by simpa using hi)] at this
        simpa using this
      · refine ⟨cells5_length _, .inr ⟨g, cap, _, by rw [hd.length_eq], hB, putRow_block hblk n (flatK encC 5 d') os, by rw [hd.length_eq]; exact hn, hc, by simpa [putCells] using hcs, ?_⟩⟩
        have h3 := putCells_take (flatK encC 5 d') cur (by rw [size_flatK, hz, hcs]; exact Nat.mul_le_mul_right 5 hn)
        rw [size_flatK, hF] at h3
        rw [hF]
        simpa [Array.length_toList] using h3
      · exact (putRow_keep w g n (flatK encC 5 d') os).mono (fun b hb => by rw [hb]; rfl)
end Go.Proofs.YtgabidgpngiecaaGreat
