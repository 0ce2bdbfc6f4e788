/- slices.Sort and slices.Compact of ints (the layings are printed by wip/l5.py). Conditions: each names its own. -/
import Derived.Test.YtgabidgpngiecaaLV2
import Derived.Shelf.Sort.Plain
import Derived.Shelf.Slices.CompactI
import Derived.Shelf.Slices.In.SortNone
namespace Go.Proofs.Ytgabidgpngiecaa
open Go.RowKit Go.Proofs.YtgabidgpngiecaaKit Go.Proofs.YtgabidgpngiecaaPlain Go.Sort Go.Proofs Go.Shelf

def isortRen : Go.Shelf.Ren := ⟨fun | 189 => 59 | 125 => 65 | 257 => 70 | 128 => 78 | 129 => 79 | 294 => 81 | 295 => 82 | 296 => 83 | 297 => 84 | 298 => 85 | 299 => 86 | 216 => 87 | 300 => 88 | 301 => 89 | 328 => 96 | 329 => 91 | 330 => 92 | 331 => 97 | 332 => 98 | 215 => 57 | 343 => 100 | n => n, fun | 28 => 54 | 3 => 3 | 46 => 110 | 0 => 0 | 51 => 137 | 53 => 139 | 4 => 4 | 183 => 130 | 182 => 129 | 131 => 134 | 5 => 5 | 9 => 9 | 218 => 146 | 222 => 150 | 228 => 154 | 229 => 99 | n => n, fun n => n⟩
theorem isortLays : Lays.n189 Try.prog isortRen := {
  mixed := by kernel_rfl
  f189 := Try.func59.trans (congrArg some (by kernel_rfl))
  f125 := Try.func65.trans (congrArg some (by kernel_rfl))
  f257 := Try.func70.trans (congrArg some (by kernel_rfl))
  f128 := Try.func78.trans (congrArg some (by kernel_rfl))
  f129 := Try.func79.trans (congrArg some (by kernel_rfl))
  f294 := Try.func81.trans (congrArg some (by kernel_rfl))
  f295 := Try.func82.trans (congrArg some (by kernel_rfl))
  f296 := Try.func83.trans (congrArg some (by kernel_rfl))
  f297 := Try.func84.trans (congrArg some (by kernel_rfl))
  f298 := Try.func85.trans (congrArg some (by kernel_rfl))
  f299 := Try.func86.trans (congrArg some (by kernel_rfl))
  f216 := Try.func87.trans (congrArg some (by kernel_rfl))
  f300 := Try.func88.trans (congrArg some (by kernel_rfl))
  f301 := Try.func89.trans (congrArg some (by kernel_rfl))
  f328 := Try.func96.trans (congrArg some (by kernel_rfl))
  f329 := Try.func91.trans (congrArg some (by kernel_rfl))
  f330 := Try.func92.trans (congrArg some (by kernel_rfl))
  f331 := Try.func97.trans (congrArg some (by kernel_rfl))
  f332 := Try.func98.trans (congrArg some (by kernel_rfl))
  f215 := Try.func57.trans (congrArg some (by kernel_rfl))
  f343 := Try.func100.trans (congrArg some (by kernel_rfl))
  t28 := Try.underlying54, a28 := Try.isAgg54, z28 := Try.sizeOf54, v28 := Try.zeroValue54
  t3 := Try.underlying3, a3 := Try.isAgg3, z3 := Try.sizeOf3, v3 := Try.zeroValue3
  t46 := Try.underlying110, a46 := Try.isAgg110, z46 := Try.sizeOf110, v46 := Try.zeroValue110
  t0 := Try.underlying0, a0 := Try.isAgg0, z0 := Try.sizeOf0, v0 := Try.zeroValue0
  t51 := Try.underlying137, a51 := Try.isAgg137, z51 := Try.sizeOf137, v51 := Try.zeroValue137
  t53 := Try.underlying139, a53 := Try.isAgg139, z53 := Try.sizeOf139, v53 := Try.zeroValue139
  t4 := Try.underlying4, a4 := Try.isAgg4, z4 := Try.sizeOf4, v4 := Try.zeroValue4
  t183 := Try.underlying130, a183 := Try.isAgg130, z183 := Try.sizeOf130, v183 := Try.zeroValue130
  t182 := Try.underlying129, a182 := Try.isAgg129, z182 := Try.sizeOf129, v182 := Try.zeroValue129
  t131 := Try.underlying134, a131 := Try.isAgg134, z131 := Try.sizeOf134, v131 := Try.zeroValue134
  t5 := Try.underlying5, a5 := Try.isAgg5, z5 := Try.sizeOf5, v5 := Try.zeroValue5
  t9 := Try.underlying9, a9 := Try.isAgg9, z9 := Try.sizeOf9, v9 := Try.zeroValue9
  t218 := Try.underlying146, a218 := Try.isAgg146, z218 := Try.sizeOf146, v218 := Try.zeroValue146
  t222 := Try.underlying150, a222 := Try.isAgg150, z222 := Try.sizeOf150, v222 := Try.zeroValue150
  t228 := Try.underlying154, a228 := Try.isAgg154, z228 := Try.sizeOf154, v228 := Try.zeroValue154
  t229 := Try.underlying99, a229 := Try.isAgg99, z229 := Try.sizeOf99, v229 := Try.zeroValue99
}
def compRen : Go.Shelf.Ren := ⟨fun | 20 => 60 | n => n, fun | 22 => 54 | 3 => 3 | 4 => 4 | 0 => 0 | n => n, fun n => n⟩
theorem compLays : Lays2.n20 Try.prog compRen := {
  mixed := by kernel_rfl
  f20 := Try.func60.trans (congrArg some (by kernel_rfl))
  t22 := Try.underlying54, a22 := Try.isAgg54, z22 := Try.sizeOf54, v22 := Try.zeroValue54
  t3 := Try.underlying3, a3 := Try.isAgg3, z3 := Try.sizeOf3, v3 := Try.zeroValue3
  t4 := Try.underlying4, a4 := Try.isAgg4, z4 := Try.sizeOf4, v4 := Try.zeroValue4
  t0 := Try.underlying0, a0 := Try.isAgg0, z0 := Try.sizeOf0, v0 := Try.zeroValue0
  i3 := by kernel_rfl
}

theorem putCells_map (d : Array Int) (c : Array Value) : putCells (Value.int .i64) 0 d c = putCells id 0 (d.map (Value.int .i64)) c := by
  unfold putCells
  apply Array.ext_getElem?
  intro k
  rw [Array.getElem?_mapIdx, Array.getElem?_mapIdx]
  congr 1
  funext x
  by_cases h : 0 ≤ k ∧ k < 0 + d.size
  · rw [if_pos h, if_pos (by simpa using h), getElem!_pos d (k - 0) (by omega), getElem!_pos _ (k - 0) (by simp; omega)]
    simp
  · rw [if_neg h, if_neg (by simpa using h)]
theorem OI.holds {B : Nat} {w : World} {g c : Nat} {xs : List Int} (h : OI B w (.slice (some ⟨g, 0, none⟩) xs.length c) xs) (_h0 : 0 < xs.length) : Holds (Value.int .i64) w g 0 xs.toArray ∧ g < w.heap.size := by
  have hlt : g < w.heap.size := (World.ownsRow.lt h g rfl).2
  refine ⟨fun j hj => ?_, hlt⟩
  have hj' : j < xs.length := by simpa using hj
  obtain ⟨g', e, _, hc⟩ := h.at_ hj'
  injection e with e
  injection e with e
  subst e
  rw [Nat.zero_add, hc, getElem!_pos _ j hj]
  refine ⟨by simp, ?_⟩
  obtain ⟨_, ⟨h1, _⟩ | ⟨g2, cap, cur, h2, _, hg, _⟩⟩ := h
  · cases h1
  · injection h2 with h2
    injection h2 with h2
    injection h2 with h2
    subst h2
    exact Blk.frozen (w := w) (cs := cur) hg j
theorem OI.put {B : Nat} {w : World} {g c n : Nat} {os : Array Obj} {xs ys : List Int} (h : OI B w (.slice (some ⟨g, 0, none⟩) xs.length c) xs) (hy : ys.length = xs.length) : OI B (grow (putRow (Value.int .i64) (Sort.ahead w n) g 0 ys.toArray) os) (.slice (some ⟨g, 0, none⟩) ys.length c) ys ∧ Keep (fun b => b = g) w (grow (putRow (Value.int .i64) (Sort.ahead w n) g 0 ys.toArray) os) := by
  have e : putRow (Value.int .i64) (Sort.ahead w n) g 0 ys.toArray = putRow id (Sort.ahead w n) g 0 (intsV ys).toArray := by
    unfold putRow
    congr 1
    funext cs
    rw [putCells_map]
    congr 1
    simp [intsV]
  rw [e]
  refine ⟨?_, putRow_keep w g n _ os⟩
  obtain ⟨_, ⟨h1, _⟩ | ⟨g2, cap, cur, h2, hB, hg, hn, hc, hcs, htake⟩⟩ := h
  · cases h1
  · injection h2 with h2 h3 h4
    injection h2 with h2
    injection h2 with h2
    subst h2 h4
    refine ⟨by simp [intsV], .inr ⟨g, c, _, rfl, hB, putRow_block (w := w) (cur := cur) hg n _ os, by rw [hy]; exact hn, hc, by simpa [putCells] using hcs, ?_⟩⟩
    have h5 := putCells_take (intsV ys).toArray cur (by simp [intsV]; omega)
    simpa [intsV] using h5


/-- The numbers in order. -/
def isrt (xs : List Int) : List Int := xs.mergeSort fun x y => decide (x ≤ y)
theorem isrt_length (xs : List Int) : (isrt xs).length = xs.length := by unfold isrt; exact List.length_mergeSort ..
theorem isort_any {B : Nat} {w : World} {g c : Nat} {xs : List Int} (h : OI B w (.slice (some ⟨g, 0, none⟩) xs.length c) xs) (h0 : 0 < xs.length) (hl : xs.length ≤ 1000) :
    Calls Try.prog 59 #[.slice (some ⟨g, 0, none⟩) xs.length c] w fun e w' => e = .returned (.tuple #[]) ∧ OI B w' (.slice (some ⟨g, 0, none⟩) xs.length c) (isrt xs) ∧ Keep (fun b => b = g) w w' := by
  obtain ⟨hH, hb⟩ := h.holds h0
  refine (Any.slices_Sort_int isortLays g 0 c xs w hH hb (by omega)).mono ?_
  rintro e w' ⟨rfl, n, os, rfl⟩
  obtain ⟨h1, h2⟩ := h.put (ys := isrt xs) (n := n) (os := os) (isrt_length xs)
  rw [isrt_length] at h1
  exact ⟨rfl, h1, h2⟩
theorem OI.take {B : Nat} {w : World} {g c k n : Nat} {xs : List Int} (h : OI B w (.slice (some ⟨g, 0, none⟩) n c) xs) (hn : n = xs.length) (hk : k ≤ xs.length) : OI B w (.slice (some ⟨g, 0, none⟩) k c) (xs.take k) := by
  subst hn
  obtain ⟨_, ⟨h1, _⟩ | ⟨g2, cap, cur, h2, hB, hg, hn, hc, hcs, htake⟩⟩ := h
  · cases h1
  · injection h2 with h2 h3 h4
    injection h2 with h2
    injection h2 with h2
    subst h2 h4
    have hkl : (xs.take k).length = k := by rw [List.length_take]; omega
    refine ⟨by simp [intsV], .inr ⟨g, c, cur, by rw [hkl], hB, hg, by rw [hkl]; omega, hc, hcs, ?_⟩⟩
    rw [hkl]
    have h5 : cur.toList.take (k * 1) = (cur.toList.take (xs.length * 1)).take (k * 1) := by rw [List.take_take, Nat.min_eq_left (by omega)]
    rw [h5, htake]
    simp [intsV]
theorem compact_le (xs : List Int) : (Lib.compact xs).length ≤ xs.length := by
  unfold Lib.compact Lib.compactUpTo
  rw [List.length_map]
  have := List.length_filter_le (Lib.keeps xs.toArray) (List.range xs.length)
  rw [List.length_range] at this
  exact this
theorem icompact_any {B : Nat} {w : World} {g c : Nat} {xs : List Int} (h : OI B w (.slice (some ⟨g, 0, none⟩) xs.length c) xs) (h0 : 0 < xs.length) (hl : xs.length ≤ 1000) :
    Calls Try.prog 60 #[.slice (some ⟨g, 0, none⟩) xs.length c] w fun e w' => e = .returned (.slice (some ⟨g, 0, none⟩) (Lib.compact xs).length c) ∧ OI B w' (.slice (some ⟨g, 0, none⟩) (Lib.compact xs).length c) (Lib.compact xs) ∧ Keep (fun b => b = g) w w' := by
  obtain ⟨hH, hb⟩ := h.holds h0
  have hcap : xs.length ≤ c := by
    obtain ⟨A, c', e, h2⟩ := own_shape h
    injection e with _ _ e
    omega
  refine (Any.slices_Compact_int compLays g 0 c xs w hH (by omega) hcap).mono ?_
  rintro e w' ⟨rfl, q, rfl⟩
  have hle := compact_le xs
  have hy : (Lib.compact xs ++ List.replicate (xs.length - (Lib.compact xs).length) 0).length = xs.length := by simp; omega
  obtain ⟨h1, h2⟩ := h.put (ys := Lib.compact xs ++ List.replicate (xs.length - (Lib.compact xs).length) 0) (n := q) (os := #[]) hy
  have h3 := h1.take rfl (k := (Lib.compact xs).length) (by rw [hy]; exact hle)
  rw [List.take_left] at h3
  have eg : ∀ W : World, grow W #[] = W := fun W => by simp [grow]
  rw [eg] at h2 h3
  exact ⟨rfl, h3, h2⟩

end Go.Proofs.Ytgabidgpngiecaa
