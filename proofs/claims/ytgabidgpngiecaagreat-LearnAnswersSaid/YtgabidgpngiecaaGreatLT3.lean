/- slices.Sort and slices.Compact of ints (the layings are printed by wip/l5.py). Conditions: each names its own. -/
import Derived.Test.YtgabidgpngiecaaGreatLV2
import Derived.Shelf.Sort.Plain
import Derived.Shelf.Slices.CompactI
import Derived.Shelf.Slices.In.SortNone
namespace Go.Proofs.YtgabidgpngiecaaGreat
open Go.RowKit Go.Proofs.YtgabidgpngiecaaGreatKit Go.Proofs.YtgabidgpngiecaaGreatPlain Go.Sort Go.Proofs Go.Shelf

def isortRen : Go.Shelf.Ren := ⟨fun | 189 => 58 | 125 => 71 | 257 => 74 | 128 => 85 | 129 => 86 | 294 => 87 | 295 => 88 | 296 => 89 | 297 => 90 | 298 => 91 | 299 => 92 | 216 => 93 | 300 => 94 | 301 => 95 | 328 => 102 | 329 => 98 | 330 => 99 | 331 => 103 | 332 => 104 | 215 => 62 | 343 => 107 | n => n, fun | 28 => 100 | 3 => 3 | 46 => 133 | 0 => 0 | 51 => 149 | 53 => 151 | 4 => 4 | 183 => 142 | 182 => 141 | 131 => 146 | 5 => 5 | 9 => 9 | 218 => 158 | 222 => 162 | 228 => 166 | 229 => 87 | n => n, fun n => n⟩
theorem isortLays : Lays.n189 Tryz.prog isortRen := {
  mixed := by kernel_rfl
  f189 := Tryz.func58.trans (congrArg some (by kernel_rfl))
  f125 := Tryz.func71.trans (congrArg some (by kernel_rfl))
  f257 := Tryz.func74.trans (congrArg some (by kernel_rfl))
  f128 := Tryz.func85.trans (congrArg some (by kernel_rfl))
  f129 := Tryz.func86.trans (congrArg some (by kernel_rfl))
  f294 := Tryz.func87.trans (congrArg some (by kernel_rfl))
  f295 := Tryz.func88.trans (congrArg some (by kernel_rfl))
  f296 := Tryz.func89.trans (congrArg some (by kernel_rfl))
  f297 := Tryz.func90.trans (congrArg some (by kernel_rfl))
  f298 := Tryz.func91.trans (congrArg some (by kernel_rfl))
  f299 := Tryz.func92.trans (congrArg some (by kernel_rfl))
  f216 := Tryz.func93.trans (congrArg some (by kernel_rfl))
  f300 := Tryz.func94.trans (congrArg some (by kernel_rfl))
  f301 := Tryz.func95.trans (congrArg some (by kernel_rfl))
  f328 := Tryz.func102.trans (congrArg some (by kernel_rfl))
  f329 := Tryz.func98.trans (congrArg some (by kernel_rfl))
  f330 := Tryz.func99.trans (congrArg some (by kernel_rfl))
  f331 := Tryz.func103.trans (congrArg some (by kernel_rfl))
  f332 := Tryz.func104.trans (congrArg some (by kernel_rfl))
  f215 := Tryz.func62.trans (congrArg some (by kernel_rfl))
  f343 := Tryz.func107.trans (congrArg some (by kernel_rfl))
  t28 := Tryz.underlying100, a28 := Tryz.isAgg100, z28 := Tryz.sizeOf100, v28 := Tryz.zeroValue100
  t3 := Tryz.underlying3, a3 := Tryz.isAgg3, z3 := Tryz.sizeOf3, v3 := Tryz.zeroValue3
  t46 := Tryz.underlying133, a46 := Tryz.isAgg133, z46 := Tryz.sizeOf133, v46 := Tryz.zeroValue133
  t0 := Tryz.underlying0, a0 := Tryz.isAgg0, z0 := Tryz.sizeOf0, v0 := Tryz.zeroValue0
  t51 := Tryz.underlying149, a51 := Tryz.isAgg149, z51 := Tryz.sizeOf149, v51 := Tryz.zeroValue149
  t53 := Tryz.underlying151, a53 := Tryz.isAgg151, z53 := Tryz.sizeOf151, v53 := Tryz.zeroValue151
  t4 := Tryz.underlying4, a4 := Tryz.isAgg4, z4 := Tryz.sizeOf4, v4 := Tryz.zeroValue4
  t183 := Tryz.underlying142, a183 := Tryz.isAgg142, z183 := Tryz.sizeOf142, v183 := Tryz.zeroValue142
  t182 := Tryz.underlying141, a182 := Tryz.isAgg141, z182 := Tryz.sizeOf141, v182 := Tryz.zeroValue141
  t131 := Tryz.underlying146, a131 := Tryz.isAgg146, z131 := Tryz.sizeOf146, v131 := Tryz.zeroValue146
  t5 := Tryz.underlying5, a5 := Tryz.isAgg5, z5 := Tryz.sizeOf5, v5 := Tryz.zeroValue5
  t9 := Tryz.underlying9, a9 := Tryz.isAgg9, z9 := Tryz.sizeOf9, v9 := Tryz.zeroValue9
  t218 := Tryz.underlying158, a218 := Tryz.isAgg158, z218 := Tryz.sizeOf158, v218 := Tryz.zeroValue158
  t222 := Tryz.underlying162, a222 := Tryz.isAgg162, z222 := Tryz.sizeOf162, v222 := Tryz.zeroValue162
  t228 := Tryz.underlying166, a228 := Tryz.isAgg166, z228 := Tryz.sizeOf166, v228 := Tryz.zeroValue166
  t229 := Tryz.underlying87, a229 := Tryz.isAgg87, z229 := Tryz.sizeOf87, v229 := Tryz.zeroValue87
}
def compRen : Go.Shelf.Ren := ⟨fun | 20 => 59 | n => n, fun | 22 => 100 | 3 => 3 | 4 => 4 | 0 => 0 | n => n, fun n => n⟩
theorem compLays : Lays2.n20 Tryz.prog compRen := {
  mixed := by kernel_rfl
  f20 := Tryz.func59.trans (congrArg some (by kernel_rfl))
  t22 := Tryz.underlying100, a22 := Tryz.isAgg100, z22 := Tryz.sizeOf100, v22 := Tryz.zeroValue100
  t3 := Tryz.underlying3, a3 := Tryz.isAgg3, z3 := Tryz.sizeOf3, v3 := Tryz.zeroValue3
  t4 := Tryz.underlying4, a4 := Tryz.isAgg4, z4 := Tryz.sizeOf4, v4 := Tryz.zeroValue4
  t0 := Tryz.underlying0, a0 := Tryz.isAgg0, z0 := Tryz.sizeOf0, v0 := Tryz.zeroValue0
  i3 := by kernel_rfl
}

theorem putCells_map (d : Array Int) (c : Array Value) : putCells (Value.int .i64) 0 d c = putCells id 0 (d.map (Value.int .i64)) c := by
  unfold putCells
  apply Array.ext_getElem?
  intro k
  rw [Array.getElem?_mapIdx, Array.getElem?_mapIdx]
  congr 1
  funext x
  by_cases h : 0 ≤ k ∧ k < 0 + d.size
  · rw [if_pos h, if_pos (by simpa using h), getElem!_pos d (k - 0) (by omega), getElem!_pos _ (k - 0) (by simp; omega)]
    simp
  · rw [if_neg h, if_neg (by simpa using h)]
theorem OI.holds {B : Nat} {w : World} {g c : Nat} {xs : List Int} (h : OI B w (.slice (some ⟨g, 0, none⟩) xs.length c) xs) (_h0 : 0 < xs.length) : Holds (Value.int .i64) w g 0 xs.toArray ∧ g < w.heap.size := by
  have hlt : g < w.heap.size := (World.ownsRow.lt h g rfl).2
  refine ⟨fun j hj => ?_, hlt⟩
  have hj' : j < xs.length := by simpa using hj
  obtain ⟨g', e, _, hc⟩ := h.at_ hj'
  injection e with e
  injection e with e
  subst e
  rw [Nat.zero_add, hc, getElem!_pos _ j hj]
  refine ⟨by simp, ?_⟩
  obtain ⟨_, ⟨h1, _⟩ | ⟨g2, cap, cur, h2, _, hg, _⟩⟩ := h
  · cases h1
  · injection h2 with h2
    injection h2 with h2
    injection h2 with h2
    subst h2
    exact Blk.frozen (w := w) (cs := cur) hg j
theorem OI.put {B : Nat} {w : World} {g c n : Nat} {os : Array Obj} {xs ys : List Int} (h : OI B w (.slice (some ⟨g, 0, none⟩) xs.length c) xs) (hy : ys.length = xs.length) : OI B (grow (putRow (Value.int .i64) (Sort.ahead w n) g 0 ys.toArray) os) (.slice (some ⟨g, 0, none⟩) ys.length c) ys ∧ Keep (fun b => b = g) w (grow (putRow (Value.int .i64) (Sort.ahead w n) g 0 ys.toArray) os) := by
  have e : putRow (Value.int .i64) (Sort.ahead w n) g 0 ys.toArray = putRow id (Sort.ahead w n) g 0 (intsV ys).toArray := by
    unfold putRow
    congr 1
    funext cs
    rw [putCells_map]
    congr 1
    simp [intsV]
  rw [e]
  refine ⟨?_, putRow_keep w g n _ os⟩
  obtain ⟨_, ⟨h1, _⟩ | ⟨g2, cap, cur, h2, hB, hg, hn, hc, hcs, htake⟩⟩ := h
  · cases h1
  · injection h2 with h2 h3 h4
    injection h2 with h2
    injection h2 with h2
    subst h2 h4
    refine ⟨by simp [intsV], .inr ⟨g, c, _, rfl, hB, putRow_block (w := w) (cur := cur) hg n _ os, by rw [hy]; exact hn, hc, by simpa [putCells] using hcs, ?_⟩⟩
    have h5 := putCells_take (intsV ys).toArray cur (by simp [intsV]; omega)
    simpa [intsV] using h5


/-- The numbers in order. -/
def isrt (xs : List Int) : List Int := xs.mergeSort fun x y => decide (x ≤ y)
theorem isrt_length (xs : List Int) : (isrt xs).length = xs.length := by unfold isrt; exact List.length_mergeSort ..
theorem isort_any {B : Nat} {w : World} {g c : Nat} {xs : List Int} (h : OI B w (.slice (some ⟨g, 0, none⟩) xs.length c) xs) (h0 : 0 < xs.length) (hl : xs.length ≤ 1000) :
    Calls Tryz.prog 58 #[.slice (some ⟨g, 0, none⟩) xs.length c] w fun e w' => e = .returned (.tuple #[]) ∧ OI B w' (.slice (some ⟨g, 0, none⟩) xs.length c) (isrt xs) ∧ Keep (fun b => b = g) w w' := by
  obtain ⟨hH, hb⟩ := h.holds h0
  refine (Any.slices_Sort_int isortLays g 0 c xs w hH hb (by omega)).mono ?_
  rintro e w' ⟨rfl, n, os, rfl⟩
  obtain ⟨h1, h2⟩ := h.put (ys := isrt xs) (n := n) (os := os) (isrt_length xs)
  rw [isrt_length] at h1
  exact ⟨rfl, h1, h2⟩
theorem OI.take {B : Nat} {w : World} {g c k n : Nat} {xs : List Int} (h : OI B w (.slice (some ⟨g, 0, none⟩) n c) xs) (hn : n = xs.length) (hk : k ≤ xs.length) : OI B w (.slice (some ⟨g, 0, none⟩) k c) (xs.take k) := by
  subst hn
  obtain ⟨_, ⟨h1, _⟩ | ⟨g2, cap, cur, h2, hB, hg, hn, hc, hcs, htake⟩⟩ := h
  · cases h1
  · injection h2 with h2 h3 h4
    injection h2 with h2
    injection h2 with h2
    subst h2 h4
    have hkl : (xs.take k).length = k := by rw [List.length_take]; omega
    refine ⟨by simp [intsV], .inr ⟨g, c, cur, by rw [hkl], hB, hg, by rw [hkl]; omega, hc, hcs, ?_⟩⟩
    rw [hkl]
    have h5 : cur.toList.take (k * 1) = (cur.toList.take (xs.length * 1)).take (k * 1) := by rw [List.take_take, Nat.min_eq_left (by omega)]
    rw [h5, htake]
    simp [intsV]
theorem compact_le (xs : List Int) : (Lib.compact xs).length ≤ xs.length := by
  unfold Lib.compact Lib.compactUpTo
  rw [List.length_map]
  have := List.length_filter_le (Lib.keeps xs.toArray) (List.range xs.length)
  rw [List.length_range] at this
  exact this
theorem icompact_any {B : Nat} {w : World} {g c : Nat} {xs : List Int} (h : OI B w (.slice (some ⟨g, 0, none⟩) xs.length c) xs) (h0 : 0 < xs.length) (hl : xs.length ≤ 1000) :
    Calls Tryz.prog 59 #[.slice (some ⟨g, 0, none⟩) xs.length c] w fun e w' => e = .returned (.slice (some ⟨g, 0, none⟩) (Lib.compact xs).length c) ∧ OI B w' (.slice (some ⟨g, 0, none⟩) (Lib.compact xs).length c) (Lib.compact xs) ∧ Keep (fun b => b = g) w w' := by
  obtain ⟨hH, hb⟩ := h.holds h0
  have hcap : xs.length ≤ c := by
    obtain ⟨A, c', e, h2⟩ := own_shape h
    injection e with _ _ e
    omega
  refine (Any.slices_Compact_int compLays g 0 c xs w hH (by omega) hcap).mono ?_
  rintro e w' ⟨rfl, q, rfl⟩
  have hle := compact_le xs
  have hy : (Lib.compact xs ++ List.replicate (xs.length - (Lib.compact xs).length) 0).length = xs.length := by simp; omega
  obtain ⟨h1, h2⟩ := h.put (ys := Lib.compact xs ++ List.replicate (xs.length - (Lib.compact xs).length) 0) (n := q) (os := #[]) hy
  have h3 := h1.take rfl (k := (Lib.compact xs).length) (by rw [hy]; exact hle)
  rw [List.take_left] at h3
  have eg : ∀ W : World, grow W #[] = W := fun W => by simp [grow]
  rw [eg] at h2 h3
  exact ⟨rfl, h3, h2⟩

end Go.Proofs.YtgabidgpngiecaaGreat
