/- bytes.Join of parts, with nothing between them. Conditions: it names its own. -/
import Derived.Test.YtdmckjojeddaaaaV4
import Derived.Shelf.Bytes.SlJoin
namespace Go.Proofs.Ytdmckjojeddaaaa
open Go.RowKit Go.Proofs.YtdmckjojeddaaaaKit Go.Proofs.YtdmckjojeddaaaaPlain Go.Proofs

def joinRen : Go.Shelf.Ren := ⟨fun | 14 => 91 | 15 => 101 | n => n, fun | 26 => 143 | 22 => 23 | 3 => 3 | 4 => 4 | 0 => 0 | 9 => 9 | 20 => 20 | 5 => 5 | n => n, fun n => n⟩
theorem joinLays : SlLaysJ.n14 Try.prog joinRen := {
  mixed := by kernel_rfl
  f14 := Try.func91.trans (congrArg some (by kernel_rfl))
  f15 := Try.func101.trans (congrArg some (by kernel_rfl))
  t0 := Try.underlying0, a0 := Try.isAgg0, z0 := Try.sizeOf0, v0 := Try.zeroValue0
  t3 := Try.underlying3, a3 := Try.isAgg3, z3 := Try.sizeOf3, v3 := Try.zeroValue3
  t4 := Try.underlying4, a4 := Try.isAgg4, z4 := Try.sizeOf4, v4 := Try.zeroValue4
  t9 := Try.underlying9, a9 := Try.isAgg9, z9 := Try.sizeOf9, v9 := Try.zeroValue9
  t20 := Try.underlying20, a20 := Try.isAgg20, z20 := Try.sizeOf20, v20 := Try.zeroValue20
  t22 := Try.underlying23, a22 := Try.isAgg23, z22 := Try.sizeOf23, v22 := Try.zeroValue23
  t26 := Try.underlying143, a26 := Try.isAgg143, z26 := Try.sizeOf143, v26 := Try.zeroValue143
  t5 := Try.underlying5, z5 := Try.sizeOf5
  i5 := by kernel_rfl }

theorem holds_of_bytes {base : Nat} {w : World} {A : Option Addr} {n : Nat} {bs : List UInt8} (h : Bytes base w A n bs) (c : Nat) : Lib.HoldsBytes w (.slice A n c) bs := by
  obtain rfl := h.len
  refine ⟨A, c, rfl, fun e => ?_, fun a e i x hx => ?_⟩
  · rcases Nat.eq_zero_or_pos bs.length with h0 | h0
    · exact List.eq_nil_of_length_eq_zero h0
    · obtain ⟨ad, e', _⟩ := h.2 h0
      rw [e] at e'; cases e'
  · have hi := (List.getElem?_eq_some_iff.1 hx).1
    obtain ⟨ad, e', _, hc⟩ := h.2 (by omega)
    rw [e] at e'
    injection e' with e'
    subst e'
    refine hc i _ ?_
    rw [byteVs_get bs i hi]
    have := (List.getElem?_eq_some_iff.1 hx).2
    rw [this]
theorem lt_of_cell {w : World} {p : Addr} {u : Value} (h : w.cell? p = some u) : p.block < w.heap.size := by
  rcases Nat.lt_or_ge p.block w.heap.size with h1 | h1
  · exact h1
  · simp [World.cell?, Array.getElem?_eq_none h1] at h
theorem bytes_of_fresh {B : Nat} {w : World} {v : Value} {l : List UInt8} (h : Lib.FreshBytes B w v l) : ∃ A c, v = .slice A l.length c ∧ Bytes w.heap.size w A l.length l := by
  obtain ⟨g, cap, zs, rfl, hB, hl, hcm, hzl, hz, hbo, hc, hf⟩ := h
  refine ⟨some ⟨g, 0, none⟩, cap, rfl, by simp [byteVs_length], fun hn => ?_⟩
  have hlt : g < w.heap.size := lt_of_cell (hc 0 (by omega))
  refine ⟨_, rfl, Imm.old rfl hlt hlt, fun j u hu => ?_⟩
  have hj : j < l.length := by have := (List.getElem?_eq_some_iff.1 hu).1; rwa [byteVs_length] at this
  rw [byteVs_get l j hj] at hu
  injection hu with hu
  subst hu
  rw [Addr.add_lit, Nat.zero_add, hc j (by omega)]
  have hjz : j < zs.length := by omega
  have e1 : l[j]? = some (UInt8.ofNat zs[j].toNat) := by
    have h2 : (Lib.bytesOf (zs.take l.length))[j]? = l[j]? := by rw [hbo]
    rw [← h2, Lib.bytesOf, List.getElem?_map, List.getElem?_take, if_pos hj, List.getElem?_eq_getElem hjz]
    rfl
  rw [List.getElem?_eq_getElem hj] at e1
  injection e1 with e1
  obtain ⟨z0, z1⟩ := hz zs[j] (List.getElem_mem hjz)
  rw [e1]
  simp only [List.getD, List.getElem?_eq_getElem hjz, Option.getD_some]
  have : ((UInt8.ofNat zs[j].toNat).toNat : Int) = zs[j] := by
    rw [UInt8.toNat_ofNat']
    omega
  rw [this]
theorem parts_at {base B : Nat} {w : World} {ls : List (List UInt8)} {g n c : Nat} {xs : List Value} (h1 : w.ownsRow B 23 1 (.slice (some ⟨g, 0, none⟩) n c) ls.length xs) (h2 : Flat (BytesR base w) 1 ls xs) : Lib.PartsAt w ⟨g, 0, none⟩ xs ls := by
  refine ⟨by simpa using h2.len, fun i v hv => h1.cells (g := g) rfl i v hv, fun i v l hv hl => ?_⟩
  obtain ⟨cs, ⟨A, c', rfl, hb⟩, _, hg⟩ := h2.get hl
  have := hg 0 _ rfl
  rw [Nat.mul_one, Nat.add_zero, hv] at this
  injection this with this
  subst this
  exact holds_of_bytes hb c'
theorem lens_le {k : Nat} : ∀ {ls : List (List UInt8)}, (∀ x ∈ ls, x.length ≤ k) → Lib.lens ls ≤ k * ls.length := by
  intro ls
  induction ls with
  | nil => intro _; simp [Lib.lens]
  | cons x ls ih =>
    intro h
    rw [Lib.lens_cons, List.length_cons, Nat.mul_add, Nat.mul_one]
    have := ih (fun y hy => h y (List.mem_cons_of_mem _ hy))
    have := h x List.mem_cons_self
    omega
theorem join_empty (ls : List (List UInt8)) : Lib.join ls [] = ls.flatten := by
  cases ls with
  | nil => rfl
  | cons x r =>
    rw [Lib.join_cons, Lib.joinTail]
    simp

/-- A slice of these bytes comes back, in a block that is new. -/
def JoinRet (w : World) (bs : List UInt8) (e : Ending) (w' : World) : Prop := ∃ A c, e = .returned (.slice A bs.length c) ∧ Bytes w'.heap.size w' A bs.length bs ∧ Keep No w w'
theorem join_any {base B : Nat} {w : World} {ls : List (List UInt8)} {A : Option Addr} {c : Nat} (h : OwnB base B ls (.slice A ls.length c) w) (hne : ∀ x ∈ ls, x ≠ [] ∧ x.length ≤ 2000) (hn : ls.length ≤ 1000000) :
    Calls Try.prog 91 #[.slice A ls.length c, .slice none 0 0] w (JoinRet w ls.flatten) := by
  obtain ⟨xs, h1, h2⟩ := h
  have hlens := lens_le (fun x hx => (hne x hx).2)
  have hmul : 2000 * ls.length ≤ 2000000000 := by omega
  rcases Nat.lt_or_ge ls.length 1 with h0 | h0
  · have : ls = [] := List.eq_nil_of_length_eq_zero (by omega)
    subst this
    refine (Any.bytes_Join_none joinLays A c (.slice none 0 0) w).mono ?_
    rintro e w' ⟨rfl, rfl⟩
    exact ⟨_, _, rfl, ⟨rfl, fun hn => absurd hn (by simp)⟩, (Keep.refl No w).alloc _⟩
  · obtain ⟨g, cap, hv, _, _⟩ := World.ownsRow.form h1 (by omega)
    injection hv with hv1 hv2 hv3
    subst hv1; subst hv3
    have hP := parts_at h1 h2
    obtain ⟨A', c', e', hcap⟩ := own_slice h1
    injection e' with _ _ e'
    subst e'
    rcases Nat.lt_or_ge ls.length 2 with h3 | h3
    · obtain ⟨x, rfl⟩ : ∃ x, ls = [x] := by
        match ls, h0, h3 with
        | [x], _, _ => exact ⟨x, rfl⟩
      obtain ⟨p, c0, l, hl, hcell, hnil, hcells⟩ := hP.get 0 (by simp)
      simp at hl
      subst hl
      have hx := hne _ (List.mem_singleton.2 rfl)
      rcases p with _ | ad0
      · exact absurd (hnil rfl) hx.1
      have hpos : 0 < x.length := List.length_pos_iff.2 hx.1
      refine (Any.bytes_Join_one joinLays g 0 c ad0 c0 x (.slice none 0 0) w (by simpa [Addr.add] using hcell) (hcells ad0 rfl) hpos (by omega)).mono ?_
      rintro e w' ⟨v, rfl, hf, hb⟩
      obtain ⟨A3, c3, rfl, hbs⟩ := bytes_of_fresh hf
      have e0 : [x].flatten = x := by simp
      rw [e0]
      exact ⟨A3, c3, rfl, hbs, Keep.below hb⟩
    · refine (Any.bytes_Join_many joinLays g 0 ls.length c xs ls (.slice none 0 0) [] w rfl h3 hP hcap ⟨none, 0, rfl, fun _ => rfl, fun a e => by cases e⟩ (by omega) (by simp; omega)).mono ?_
      rintro e w' ⟨v, rfl, hf, hb⟩
      rw [join_empty] at hf
      obtain ⟨A3, c3, rfl, hbs⟩ := bytes_of_fresh hf
      exact ⟨A3, c3, rfl, hbs, Keep.below hb⟩
end Go.Proofs.Ytdmckjojeddaaaa

namespace Go.Proofs.Ytdmckjojeddaaaa
open Go.RowKit Go.Proofs.YtdmckjojeddaaaaKit Go.Proofs.YtdmckjojeddaaaaPlain

/-- The image of the map of some pairs. -/
def imageL (seed : Int) (l : PairL) : List UInt8 := lits (l.length : Int) 4 ++ ((nodesL seed l).map nodeImage).flatten
theorem Own.new_ {w w1 w2 : World} {ys : List UInt8} {v : Value} (h : Own w ys v w1) (hk : Keep No w1 w2) : Own w ys v w2 := ⟨own_keep h.1 hk (fun _ _ x => x), h.2.trans hk (fun _ x => x.elim)⟩
theorem told_length (k v : List UInt8) : (toldL k v).length = 3 + k.length + v.length := by simp [toldL, lits_length]; omega
theorem parts_ok {base : Nat} {w : World} {seed : Int} {t : AT} (h : Rep base w seed t) : ∀ x ∈ t.parts, x ≠ [] ∧ x.length ≤ 2000 := by
  induction t with
  | nil => intro x hx; cases hx
  | node b k v l r ihl ihr =>
    intro x hx
    simp only [AT.parts, List.mem_cons, List.mem_append] at hx
    rcases hx with rfl | hx | hx
    · obtain ⟨h1, h2, h3⟩ := h.1.2.1
      refine ⟨by simp [imageL1], ?_⟩
      simp only [imageL1, List.length_cons, told_length]
      omega
    · exact ihl h.2.1 x hx
    · exact ihr h.2.2 x hx
theorem flatten_le {k : Nat} {ls : List (List UInt8)} (h : ∀ x ∈ ls, x.length ≤ k) : ls.flatten.length ≤ k * ls.length := by
  have := lens_le h
  rw [List.length_flatten]
  exact this

set_option maxHeartbeats 2000000 in
set_option maxRecDepth 100000 in
theorem image_any {base : Nat} {w : World} {seed : Int} {mb : Nat} {l : PairL} {F : List Nat} (h : MSt base w mb seed l F) (hb : base ≤ w.heap.size) (hsz : l.length ≤ 900000) :
    Calls Try.prog 52 #[.pointer (some ⟨mb, 0, none⟩)] w (OwnRet w (imageL seed l)) := by
  obtain ⟨t, hO, hwf, rfl, rfl⟩ := h
  obtain ⟨i0, hi0, hz0, hz1, hz2⟩ := info_parts info_u8
  have hE : t.parts = (nodesL seed t.toList).map nodeImage := by rw [nodesL, ← shape_build hwf]; exact parts_nodes seed t 0
  unfold imageL
  rw [← hE]
  rw [toList_length] at hsz ⊢
  have HR := Lib.hid (real_any hO.has)
  obtain ⟨_, _, m2⟩ := hO.has.cells
  have hml := hO.has.2.lt
  have hG := gatherB_any (seed := seed) hb t hO.rep w [] (.slice none 0 0) (Keep.refl _ _) OwnR.start (by simp; omega)
  rw [List.nil_append] at hG
  have HG := Lib.hid hG
  have HC := Lib.hid (fun W (h : Keep No w W) => count_any (hO.rep.new_ h))
  have HM := Lib.hid (fun W (h : Keep No w W) => (h.cell (p := ⟨mb, 2, none⟩) hml (fun x => x)).trans m2)
  have HPO := Lib.hid (parts_ok hO.rep)
  have hpl := parts_length t
  have hfl : t.parts.flatten.length ≤ 2000 * t.parts.length := flatten_le (fun x hx => (HPO.out x hx).2)
  have hwc : IntKind.u64.wrap ((t.size : Nat) : Int) = ((t.size : Nat) : Int) := wrap_u64_fit (by omega) (by omega)
  generalize t.size = n at *
  generalize t.parts = ps at *
  subst hpl
  clear hO hwf hE hG
  have hfl2 : ps.flatten.length ≤ 2000000000 := by omega
  clear hfl
  go_enter Try.func52, Try.ntmps52
  go_wp2_with (first
    | (go_at_call 64; refine HR.out.mono ?_; rintro e w' ⟨rfl, rfl⟩)
    | (go_at_call 88; refine HG.out.mono ?_; rintro e w1 ⟨A1, c1, rfl, hc1, O1, k1⟩; have mm := HM.out _ k1))
  refine (HC.out _ k1).mono ?_
  rintro e w' ⟨rfl, rfl⟩
  go_wp2_with fail
  refine (little_own (Own.start w1) (ps.length : Int) 4 4 rfl (by omega) (by simp) (by omega)).mono ?_
  rintro e w2 ⟨A2, n2, c2, rfl, O2⟩
  have HJ := Lib.hid (join_any (O1.new_ O2.kp (fun x cs hx => hx.new_ O2.kp)) HPO.out (by omega))
  go_wp2_with fail
  refine HJ.out.mono ?_
  rintro e w3 ⟨A3, c3, rfl, b3, k3⟩
  have O3 := Own.trans k1 (O2.new_ k3)
  have H3 := Lib.hid O3
  have B3 := Lib.hid b3
  clear O1 O2 O3 b3 k3 mm HJ HPO
  generalize ps.flatten = fs at *
  go_wp2_with (at_builtin; refine wpList_append_any _ rfl (.tmp 18) (.tmp 20) _ rfl w.heap.size 5 i0 _ 1 1 Try.underlying23 hi0 hz0 hz1 hz2 rfl (by omega) _ _ _ rfl H3.out.rowOf _ A3 fs.length c3 (byteVs fs) rfl B3.out (byteVs_one _) (by simp [maxLen, lits_length]; omega) (by simp [lits_length]; omega) H3.out.lt ?_; intro v4 w4 hown4 hg4 _; have O4 := Lib.hid (Own.push H3.out (zs := fs) hown4 rfl hg4); clear hown4 hg4)
  go_ret
  obtain ⟨A9, n9, c9, rfl, _⟩ := O4.out.shape
  exact ⟨A9, n9, c9, rfl, O4.out⟩
end Go.Proofs.Ytdmckjojeddaaaa
