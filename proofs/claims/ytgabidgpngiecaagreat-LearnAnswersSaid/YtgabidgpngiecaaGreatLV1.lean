/- Contract of the sort by distance. Conditions: each names its own. -/
import Derived.Test.YtgabidgpngiecaaGreatLV0
import Derived.Test.YtgabidgpngiecaaGreatLK3
namespace Go.Proofs.YtgabidgpngiecaaGreat
open Go.RowKit Go.Proofs.YtgabidgpngiecaaGreatKit Go.Proofs.YtgabidgpngiecaaGreatPlain Go.Sort Go.Lib

abbrev OkE : Type := { p : Row × Nat // okRow p.1 }
instance : Inhabited OkE := ⟨⟨(⟨0, 0, 0, 0⟩, 0), by decide⟩⟩
def encS (p : OkE) : List Value := encC p.1
theorem numsS : Nums encS := fun _ => ⟨_, _, _, _, _, rfl⟩
theorem flatS (ls : List OkE) : flatK encS 5 ls.toArray = (cells5 (ls.map (·.1))).toArray := by
  rw [← flat5]
  apply Array.ext_getElem?
  intro t
  by_cases ht : t < ls.length * 5
  · have h1 := get_flatK encS 5 ls.toArray t (by simpa using ht)
    have h2 := get_flatK encC 5 (ls.map (·.1)).toArray t (by simpa using ht)
    rw [getElem!_pos _ t (by simpa using ht)] at h1 h2
    rw [Array.getElem?_eq_getElem (by simpa using ht), Array.getElem?_eq_getElem (by simpa using ht), h1, h2]
    have hd : t / 5 < ls.length := by omega
    rw [getElem!_pos ls.toArray (t / 5) (by simpa using hd), getElem!_pos (ls.map (·.1)).toArray (t / 5) (by simpa using hd)]
    simp [encS]
  · rw [Array.getElem?_eq_none (by simp; omega), Array.getElem?_eq_none (by simp; omega)]

set_option maxHeartbeats 1000000 in
theorem nearsort_any {B : Nat} {w : World} {v : Value} {L : List (Row × Nat)} {xb : Nat} (x : Row) (hC : Cnt B w v L) (h0 : 0 < L.length) (hL : L.length ≤ 500) (hok : ∀ p ∈ L, okRow p.1) (hx : okPt x) (hb : Blk w xb 28 #[.int .i64 x.a, .int .i64 x.b, .int .i64 x.c]) :
    Calls Tryz.prog 42 #[v, .func (.func 43) #[] #[.pointer (some ⟨xb, 0, none⟩)]] w fun e w' =>
      e = .returned (.tuple #[]) ∧ Cnt B w' v (stab (ltOf (farC x)) L) ∧ Keep (fun b => v.ownBlock = some b) w w' := by
  have hbv : v.ownBlock ≠ some xb := own_blk_ne hC hb (by decide)
  obtain ⟨hl0, ⟨_, h1⟩ | ⟨g, cap, cur, rfl, hB, hg, hn, hc, hcs, htake⟩⟩ := id hC
  · omega
  · have hblk : Blk w g 96 cur := hg
    have hbg : g ≠ xb := fun e => hbv (by rw [e]; rfl)
    obtain ⟨ls, hls⟩ : ∃ ls : List OkE, ls.map (·.1) = L := ⟨L.pmap (fun p h => ⟨p, h⟩) hok, by rw [List.map_pmap]; simp⟩
    have hll : ls.length = L.length := by rw [← hls, List.length_map]
    have hH : HoldsK encS 5 w g 0 ls.toArray := by
      intro j hj
      rw [size_flatK] at hj
      have hj' : j < L.length * 5 := by simpa [hll] using hj
      rw [Nat.zero_add, hblk.cell j, hblk.frozen j]
      refine ⟨?_, rfl⟩
      have h2 : (cells5 L)[j]? = some ((flatK encS 5 ls.toArray)[j]!) := by
        rw [flatS, hls, getElem!_pos _ j (by simp [cells5_length]; omega), List.getElem_toArray]
        exact List.getElem?_eq_getElem _
      rw [← htake, List.getElem?_take, if_pos hj', Array.getElem?_toList] at h2
      exact h2
    have R : RowK encS 5 w g 0 ls.toArray := ⟨fun p => encC_length p.1, fun p => encC_one p.1, hH, hblk.lt⟩
    have hcmp : CmpLays Tryz.prog 43 #[.pointer (some ⟨xb, 0, none⟩)] encS 5 (fun p q : OkE => farC x p.1 q.1) g 0 ls.toArray.size w := fun m os dk _ p q => by
      have hk : Keep (fun b => b = g) w (sortWorldK encS 5 w g 0 m dk os) := putRow_keep w g m (flatK encS 5 dk) os
      refine (vote1_any (xb := xb) p.1 q.1 (x, 0) p.2 q.2 hx (hb.keep hk (fun e => hbg e.symm))).mono ?_
      rintro e w' ⟨he, q', os', hw⟩
      exact ⟨he, q', os', hw⟩
    have hO : SWO (ltOf (fun p q : OkE => farC x p.1 q.1)) := ⟨fun p => (swoFar x).irrefl p.1, fun p q r => (swoFar x).trans p.1 q.1 r.1, fun p q r => (swoFar x).ntrans p.1 q.1 r.1⟩
    have eg : ∀ args w, (callFunc 43 args).run Tryz.prog w = .ok (.enter 43 args) w := enters_of Tryz.func43 (by kernel_rfl) rfl
    have hcon := sortStable_any numsS R (fun p q : OkE => farC x p.1 q.1) hO 43 #[.pointer (some ⟨xb, 0, none⟩)] eg hcmp (by simp [hll]; omega) cap (by simp [hll]; omega) ls (by simp) (SWK.start hH)
    rw [show ls.toArray.size = L.length by simp [hll]] at hcon
    refine Calls.mono hcon ?_
    rintro e w' ⟨rfl, n, os, rfl⟩
    have hsm : (stab (ltOf (fun p q : OkE => farC x p.1 q.1)) ls).map (·.1) = stab (ltOf (farC x)) L := by
      rw [← hls]
      exact stab_map (lt := ltOf (fun p q : OkE => farC x p.1 q.1)) (lt' := ltOf (farC x)) (·.1) (fun p q => rfl) ls
    have hF : flatK encS 5 (stab (ltOf (fun p q : OkE => farC x p.1 q.1)) ls).toArray = (cells5 (stab (ltOf (farC x)) L)).toArray := by rw [flatS, hsm]
    have hsl : (stab (ltOf (farC x)) L).length = L.length := stab_length _
    refine ⟨rfl, ⟨cells5_length _, .inr ⟨g, cap, _, by rw [hsl], hB, putRow_block hblk n (flatK encS 5 _) os, by rw [hsl]; exact hn, hc, by simpa [putCells] using hcs, ?_⟩⟩, (putRow_keep w g n (flatK encS 5 _) os).mono (fun b hb => by rw [hb]; rfl)⟩
    have h3 := putCells_take (flatK encS 5 (stab (ltOf (fun p q : OkE => farC x p.1 q.1)) ls).toArray) cur (by rw [size_flatK, hcs]; simp [stab_length, hll]; exact Nat.mul_le_mul_right 5 hn)
    rw [hF] at h3 ⊢
    simpa [cells5_length] using h3
end Go.Proofs.YtgabidgpngiecaaGreat
