/- Contract of the reference's Told: how a pair is told. Conditions: it names its own. -/
import Derived.Test.YtdmckjojeddaaaaC1
import Derived.Test.YtdmckjojeddaaaaU3
import Derived.Deep.RegionHeld3
namespace Go.Proofs.Ytdmckjojeddaaaa
open Go.RowKit Go.Proofs.YtdmckjojeddaaaaKit

def toldL (key value : List UInt8) : List UInt8 := lits (key.length : Int) 1 ++ lits (value.length : Int) 2 ++ key ++ value
set_option maxHeartbeats 1000000 in
set_option maxRecDepth 100000 in
theorem rtold_any {b1 b2 : Nat} (A B : Option Addr) (n c m d : Nat) (key value : List UInt8) (w : World) (hk : Bytes b1 w A n key) (hv : Bytes b2 w B m value) (hn : n ≤ 10000) (hm : m ≤ 10000) :
    Calls Try.prog 92 #[.slice A n c, .slice B m d] w (OwnRet w (toldL key value)) := by
  obtain ⟨i0, hi0, hz0, hz1, hz2⟩ := info_parts info_u8
  obtain rfl := hk.len
  obtain rfl := hv.len
  have HK := Lib.hid hk
  have HV := Lib.hid hv
  clear hk hv
  go_enter Try.func92, Try.ntmps92
  go_wp2_with fail
  refine (rlittle_any (key.length : Int) 1 1 rfl w (by omega) (by omega)).mono ?_
  rintro e w1 ⟨A1, n1, c1, rfl, O1⟩
  go_wp2_with fail
  refine (rlittle_any (value.length : Int) 2 2 rfl w1 (by omega) (by omega)).mono ?_
  rintro e w2 ⟨A2, n2, c2, rfl, P2⟩
  have O2 := O1.next P2
  go_wp2_with (first
    | (at_builtin; refine wpList_append_any _ rfl (.tmp 10) (.tmp 14) _ rfl w.heap.size 5 i0 _ 1 1 Try.underlying23 hi0 hz0 hz1 hz2 rfl (by omega) _ _ _ rfl O2.1 w.heap.size _ _ _ (byteVs (lits (value.length : Int) 2)) rfl P2.reads (byteVs_one _) (by rw [P2.num]; simp [maxLen, lits_length]) (by rw [P2.num]; simp [lits_length]) O2.lt ?_; intro v3 w3 hown3 hg3 _; have O3 := O2.push hown3 P2.num.symm hg3; clear hown3 hg3)
    | (at_builtin; refine wpList_append_any _ rfl (.tmp 16) (.tmp 17) _ rfl w.heap.size 5 i0 _ 1 1 Try.underlying23 hi0 hz0 hz1 hz2 rfl (by omega) _ _ _ rfl O3.1 b1 A key.length c (byteVs key) rfl (HK.out.new_ O3.2) (byteVs_one _) (by simp [maxLen, lits_length]; omega) (by simp [lits_length]; omega) O3.lt ?_; intro v4 w4 hown4 hg4 _; have O4 := O3.push hown4 rfl hg4; clear hown4 hg4)
    | (at_builtin; refine wpList_append_any _ rfl (.tmp 19) (.tmp 20) _ rfl w.heap.size 5 i0 _ 1 1 Try.underlying23 hi0 hz0 hz1 hz2 rfl (by omega) _ _ _ rfl O4.1 b2 B value.length d (byteVs value) rfl (HV.out.new_ O4.2) (byteVs_one _) (by simp [maxLen, lits_length]; omega) (by simp [lits_length]; omega) O4.lt ?_; intro v5 w5 hown5 hg5 _; have O5 := O4.push hown5 rfl hg5; clear hown5 hg5))
  go_ret
  obtain ⟨A9, n9, c9, rfl, _⟩ := O5.shape
  exact ⟨A9, n9, c9, rfl, O5⟩
end Go.Proofs.Ytdmckjojeddaaaa

namespace Go.Proofs.Ytdmckjojeddaaaa
open Go.RowKit Go.Proofs.YtdmckjojeddaaaaKit Go.Proofs.YtdmckjojeddaaaaPlain

def flagOf (l r : Bool) : Nat := (if l then 1 else 0) + (if r then 2 else 0)
def imageL1 (l r : Bool) (key value : List UInt8) : List UInt8 := UInt8.ofNat (flagOf l r) :: toldL key value
theorem reads_two {base : Nat} (w : World) (v1 v2 u1 u2 : Value) (h1 : v1 = u1) (h2 : v2 = u2) : Reads base (w.alloc (.cells #[v1, v2] 5)) 5 1 (some ⟨w.heap.size, 0, none⟩) 2 [u1, u2] := by
  subst h1; subst h2
  exact ⟨rfl, fun _ => (rec_new (base := base) (w := w) (e := 5) (cs := [v1, v2]) rfl).2 (by omega)⟩
theorem wrap_u64_fit {x : Int} (h0 : 0 ≤ x) (h1 : x < 18446744073709551616) : IntKind.u64.wrap x = x := by
  show x % 18446744073709551616 = x
  exact Int.emod_eq_of_lt h0 h1
theorem reads_two' {base : Nat} (w : World) (v1 v2 u1 u2 : Value) (h1 : v1 = u1) (h2 : v2 = u2) : Reads base (w.alloc (.cells #[v1, v2] 5)).drew 5 1 (some ⟨w.heap.size, 0, none⟩) 2 [u1, u2] := reads_two w v1 v2 u1 u2 h1 h2
theorem byteOf_wrap (x : Int) : Value.int .u8 (IntKind.u8.wrap x) = byteV (byteOf x) := byteOf_val x
theorem Own.kp {w w1 : World} {ys : List UInt8} {v : Value} (h : Own w ys v w1) : Keep No w w1 := h.2
theorem Own.drew_ {w w1 : World} {ys : List UInt8} {v : Value} (h : Own w ys v w1) : Own w ys v w1.drew := ⟨h.1, h.2.drew⟩
theorem Own.rowOf {w w1 : World} {ys : List UInt8} {v : Value} (h : Own w ys v w1) : w1.ownsRow w.heap.size 5 1 v ys.length (byteVs ys) := h.1
theorem image_end {w w1 : World} {a b : UInt8} {k v : List UInt8} {x : Value} {fl : UInt8} (h : Own w ([] ++ [a, b] ++ lits (v.length : Int) 2 ++ k ++ v) x w1) (ha : a = fl) (hb : b = byteOf (k.length : Int)) : OwnRet w (fl :: toldL k v) (.returned x) w1 := by
  subst ha; subst hb
  obtain ⟨A, n, c, rfl, _⟩ := h.shape
  refine ⟨A, n, c, rfl, ?_⟩
  have e : ([] ++ [a, byteOf (k.length : Int)] ++ lits (v.length : Int) 2 ++ k ++ v) = a :: toldL k v := by simp [toldL, lits_one]
  rw [e] at h
  exact h

set_option maxHeartbeats 4000000 in
set_option maxRecDepth 100000 in
theorem image1_any {base : Nat} {w : World} {seed : Int} {b : Nat} {k v : List UInt8} {lp rp : Option Addr} {sz dg : Int} (h : Node base w seed b k v lp rp sz dg) :
    Calls Try.prog 89 #[.pointer (some ⟨b, 0, none⟩)] w (OwnRet w (imageL1 lp.isSome rp.isSome k v)) := by
  obtain ⟨i0, hi0, hz0, hz1, hz2⟩ := info_parts info_u8
  obtain ⟨A, c, B, d, hA, hB, c0, c1, _, c3, c4, _⟩ := h.cells
  have hbl := h.lt
  have hkv := h.2.1
  have hk2 := hkv.2.1
  have hv2 := hkv.2.2
  have HA := Lib.hid hA
  have HB := Lib.hid hB
  clear h hA hB hkv
  have HC := Lib.hid (show ∀ w', Keep No w w' → w'.cell? ⟨b, 0, none⟩ = some (.slice A k.length c) ∧ w'.cell? ⟨b, 1, none⟩ = some (.slice B v.length d) from fun w' hk => ⟨(hk.cell (p := ⟨b, 0, none⟩) hbl (fun x => x)).trans c0, (hk.cell (p := ⟨b, 1, none⟩) hbl (fun x => x)).trans c1⟩)
  have HK0 := Lib.hid (Keep.refl No w).drew
  have hwv : IntKind.u64.wrap (v.length : Int) = (v.length : Int) := wrap_u64_fit (by omega) (by omega)
  obtain ⟨fl, hfl⟩ : ∃ fl : UInt8, fl = UInt8.ofNat (flagOf lp.isSome rp.isSome) := ⟨_, rfl⟩
  unfold imageL1
  rw [← hfl]
  rcases lp with _ | l <;> rcases rp with _ | r
  all_goals
    go_enter Try.func89, Try.ntmps89
    go_wp2
    go_region_held3 (fun w' => w'.cell? ⟨b, 0, none⟩ = some (.slice A k.length c) ∧ w'.cell? ⟨b, 1, none⟩ = some (.slice B v.length d) ∧ Keep No w w')
      (first
        | with_reducible exact ⟨(HC.out _ HK0.out).1, (HC.out _ HK0.out).2, HK0.out⟩
        | with_reducible exact ⟨(HC.out _ (Keep.drew (Keep.alloc (Keep.refl No w) _))).1, (HC.out _ (Keep.drew (Keep.alloc (Keep.refl No w) _))).2, Keep.drew (Keep.alloc (Keep.refl No w) _)⟩
        | with_reducible exact ⟨(HC.out _ O4.out.kp).1, (HC.out _ O4.out.kp).2, O4.out.kp⟩
        | with_reducible exact ⟨(HC.out _ O3.out.kp).1, (HC.out _ O3.out.kp).2, O3.out.kp⟩
        | fail)
      (first
        | (go_at_call 90; refine (little_own O3.out (v.length : Int) 2 2 rfl (by omega) (by simp) (by omega)).mono ?_; rintro e w4 ⟨A4, n4, c4', rfl, O4'⟩; have O4 := Lib.hid O4'; clear O4')
        | (refine step_append_any _ (by rfl) _ _ _ (by rfl) w.heap.size 5 i0 _ 1 1 Try.underlying23 hi0 hz0 hz1 hz2 rfl (by omega) _ 0 [] (by rfl) (World.ownsRow_nil _ _ _ _) base _ 2 2 [byteV fl, byteV (byteOf (k.length : Int))] (by rfl) (reads_two' w _ _ _ _ (by rw [hfl]; rfl) (byteOf_wrap _)) (by simp [byteV, Value.oneCell']) (by simp only [maxLen]; omega) (by omega) (by simp) ?_; intro v3 w3 hown3 hg3 _; have O3 := Lib.hid (Own.push (show Own w [] (.slice none 0 0) _ from ⟨World.ownsRow_nil _ _ _ _, ((Keep.refl No w).alloc _).drew⟩) (zs := [fl, byteOf (k.length : Int)]) hown3 rfl hg3); clear hown3 hg3))
    go_wp2
    go_region_held3 (fun w' => w'.cell? ⟨b, 0, none⟩ = some (.slice A k.length c) ∧ w'.cell? ⟨b, 1, none⟩ = some (.slice B v.length d) ∧ Keep No w w')
      (first
        | with_reducible exact ⟨(HC.out _ O6.out.kp).1, (HC.out _ O6.out.kp).2, O6.out.kp⟩
        | with_reducible exact ⟨(HC.out _ O5.out.kp).1, (HC.out _ O5.out.kp).2, O5.out.kp⟩
        | with_reducible exact ⟨(HC.out _ O4.out.kp.drew).1, (HC.out _ O4.out.kp.drew).2, O4.out.kp.drew⟩
        | fail)
      (first
        | (refine step_append_any _ (by rfl) _ _ _ (by rfl) w.heap.size 5 i0 _ 1 1 Try.underlying23 hi0 hz0 hz1 hz2 rfl (by omega) _ _ _ (by rfl) O5.out.rowOf base B v.length d (byteVs v) (by rfl) (HB.out.new_ O5.out.kp) (byteVs_one _) (by simp [maxLen, lits_length]; omega) (by simp [lits_length]; omega) O5.out.lt ?_; intro v6 w6 hown6 hg6 _; have O6 := Lib.hid (Own.push O5.out (zs := v) hown6 rfl hg6); clear hown6 hg6)
        | (refine step_append_any _ (by rfl) _ _ _ (by rfl) w.heap.size 5 i0 _ 1 1 Try.underlying23 hi0 hz0 hz1 hz2 rfl (by omega) _ _ _ (by rfl) O4.out.drew_.rowOf base A k.length c (byteVs k) (by rfl) (HA.out.new_ O4.out.kp.drew) (byteVs_one _) (by simp [maxLen, lits_length]; omega) (by simp [lits_length]; omega) O4.out.drew_.lt ?_; intro v5 w5 hown5 hg5 _; have O5 := Lib.hid (Own.push O4.out.drew_ (zs := k) hown5 rfl hg5); clear hown5 hg5)
        | fail)
    go_wp2
    go_ret
    exact image_end O6.out rfl rfl
end Go.Proofs.Ytdmckjojeddaaaa

namespace Go.Proofs.Ytdmckjojeddaaaa
open Go.RowKit Go.Proofs.YtdmckjojeddaaaaKit Go.Proofs.YtdmckjojeddaaaaPlain

/-! ### Rows of slices of bytes -/
def BytesR (base : Nat) (w : World) (x : List UInt8) (cs : List Value) : Prop := ∃ A c, cs = [.slice A x.length c] ∧ Bytes base w A x.length x
theorem BytesR.offs {base : Nat} (S : Nat → Prop) (w w' : World) (x : List UInt8) (cs : List Value) (h : BytesR base w x cs) (hk : Keep S w w') (hs : Off base 5 w S) : BytesR base w' x cs := by
  obtain ⟨A, c, e, h1⟩ := h
  exact ⟨A, c, e, h1.off hk hs⟩
theorem BytesR.new_ {base : Nat} {w w' : World} {x : List UInt8} {cs : List Value} (h : BytesR base w x cs) (hk : Keep No w w') : BytesR base w' x cs := h.offs No w w' x cs hk Off.no
theorem BytesR.one {base : Nat} {w : World} {x : List UInt8} {cs : List Value} (h : BytesR base w x cs) : ∀ u ∈ cs, u.oneCell' = true := by
  obtain ⟨A, c, rfl, _⟩ := h
  intro u hu
  simp at hu
  rcases hu with rfl
  rfl
abbrev OwnB (base B : Nat) := OwnR (BytesR base) 23 1 B
theorem info_bytes : (Try.prog.info? 23).map (fun i => (i.zero, i.size, i.bytes)) = some (some (.slice none 0 0), 1, 24) := by kernel_rfl

/-! ### The parts of an image -/
def nodeImage (x : NodeV) : List UInt8 := imageL1 (decide (0 ≤ x.left)) (decide (0 ≤ x.right)) x.key x.value
def AT.parts : AT → List (List UInt8)
  | .nil => []
  | .node _ k v l r => imageL1 l.ptr.isSome r.ptr.isSome k v :: (l.parts ++ r.parts)
theorem at_isSome (t : AT) (n : Nat) : decide (0 ≤ t.shape.at_ n) = t.ptr.isSome := by
  cases t with
  | nil => rfl
  | node b k v l r => simp [AT.shape, PT.at_, AT.ptr]
theorem parts_nodes (seed : Int) (t : AT) (i : Nat) : t.parts = (t.shape.nodes seed i).map nodeImage := by
  induction t generalizing i with
  | nil => rfl
  | node b k v l r ihl ihr =>
    simp only [AT.parts, AT.shape, PT.nodes, List.map_cons, List.map_append, nodeImage, at_isSome]
    rw [← ihl, ← ihr]
theorem parts_length (t : AT) : t.parts.length = t.size := by
  induction t with
  | nil => rfl
  | node b k v l r ihl ihr => simp only [AT.parts, AT.size, List.length_cons, List.length_append, ihl, ihr]; omega

def GatherB (base : Nat) (W0 : World) (l : List (List UInt8)) (e : Ending) (w' : World) : Prop :=
  ∃ A c, e = .returned (.slice A l.length c) ∧ l.length ≤ c ∧ OwnB base W0.heap.size l (.slice A l.length c) w' ∧ Keep No W0 w'
theorem gatherB_take {base : Nat} {W0 w w1 : World} {L : List (List UInt8)} {V : Value} {ys : List UInt8} {A : Option Addr} {n c : Nat} (hk : Keep No W0 w) (ho : OwnB base W0.heap.size L V w) (h1 : Own w.drew ys (.slice A n c) w1) :
    OwnB base W0.heap.size L V w1 ∧ BytesR base w1 ys [.slice A n c] ∧ Keep No W0 w1 := by
  have hk1 : Keep No w w1 := h1.2.of_drew
  obtain rfl := h1.num
  exact ⟨ho.new_ hk1 (fun x cs hx => hx.new_ hk1), ⟨A, c, rfl, h1.bytes⟩, hk.trans hk1 (fun _ x => x.elim)⟩

set_option maxHeartbeats 2000000 in
set_option maxRecDepth 100000 in
theorem gatherB_any {base : Nat} {W0 : World} {seed : Int} (hb : base ≤ W0.heap.size) (t : AT) (hrep : Rep base W0 seed t) : ∀ (w : World) (l : List (List UInt8)) (v : Value),
    Keep No W0 w → OwnB base W0.heap.size l v w → l.length + t.size ≤ 1000000 →
    Calls Try.prog 88 #[.pointer t.ptr, v, .func (.func 89) #[] #[]] w (GatherB base W0 (l ++ t.parts)) := by
  induction t with
  | nil =>
    intro w l v hk ho _
    have H := Lib.hid (show _ ∧ _ from ⟨hk, ho⟩)
    clear hk ho
    rw [ptr_nil]
    go_enter Try.func88, Try.ntmps88
    go_wp2
    go_ret
    obtain ⟨hk, ho⟩ := H.out
    obtain ⟨A, n, c, rfl, hn, hcc⟩ := ho.shape
    obtain rfl := hn.out
    have e0 : l ++ AT.nil.parts = l := by simp [AT.parts]
    rw [e0]
    exact ⟨A, c, rfl, hcc, ho, hk⟩
  | node b k v l r ihl ihr =>
    intro w L V hk ho hl1
    obtain ⟨i0, hi0, hz0, hz1, hz2⟩ := info_parts info_bytes
    have hszs : L.length + 1 + l.size + r.size ≤ 1000000 := by simp only [AT.size] at hl1; omega
    have hreps : ∀ w', Keep No W0 w' → Rep base w' seed (.node b k v l r) := fun w' hk' => hrep.new_ hk'
    have hrw := hreps w hk
    have hT1 := Lib.hid (image1_any (hrw.new_ ((Keep.refl No w).drew)).root)
    obtain ⟨ys, hys⟩ : ∃ ys, ys = imageL1 l.ptr.isSome r.ptr.isSome k v := ⟨_, rfl⟩
    rw [← hys] at hT1
    obtain ⟨L3, hL3⟩ : ∃ L3, L3 = (L ++ [ys]) ++ l.parts := ⟨_, rfl⟩
    obtain ⟨L4, hL4⟩ : ∃ L4, L4 = L ++ (AT.node b k v l r).parts := ⟨_, rfl⟩
    have hl3 : L3.length = L.length + 1 + l.size := by rw [hL3, List.length_append, List.length_append, parts_length]; rfl
    have hl43 : L4 = L3 ++ r.parts := by rw [hL4, hL3, AT.parts, hys]; simp
    have HL := Lib.hid (show ∀ w2 v2, Keep No W0 w2 → OwnB base W0.heap.size (L ++ [ys]) v2 w2 →
      Calls Try.prog 88 #[.pointer l.ptr, v2, .func (.func 89) #[] #[]] w2 (GatherB base W0 L3) from fun w2 v2 hk ho => hL3 ▸ ihl hrep.2.1 w2 _ v2 hk ho (by simp; omega))
    have HR := Lib.hid (show ∀ w3 v3, Keep No W0 w3 → OwnB base W0.heap.size L3 v3 w3 →
      Calls Try.prog 88 #[.pointer r.ptr, v3, .func (.func 89) #[] #[]] w3 (GatherB base W0 L4) from fun w3 v3 hk ho => by
        rw [hl43]; exact ihr hrep.2.2 w3 _ v3 hk ho (by omega))
    rw [← hL4]
    clear hL3 hL4 hl3 hl43 hys
    have HO := Lib.hid ho
    have HK := Lib.hid hk
    obtain ⟨_, _, _, _, _, _, _, _, _, c3, c4, _⟩ := hrw.root.cells
    have hcl : ∀ w', Keep No W0 w' → w'.cell? ⟨b, 3, none⟩ = some (.pointer l.ptr) ∧ w'.cell? ⟨b, 4, none⟩ = some (.pointer r.ptr) := fun w' hk' => by
      obtain ⟨_, _, _, _, _, _, _, _, _, c3, c4, _⟩ := (hreps w' hk').root.cells
      exact ⟨c3, c4⟩
    have HCL := Lib.hid hcl
    clear hrw ihl ihr ho hreps hk hl1 hcl
    have tok1 : True := trivial
    rw [ptr_node]
    go_enter Try.func88, Try.ntmps88
    go_wp2_with fail
    go_region_held3 (fun w' => w'.cell? ⟨b, 3, none⟩ = some (.pointer l.ptr) ∧ w'.cell? ⟨b, 4, none⟩ = some (.pointer r.ptr) ∧ Keep No W0 w')
      (first
        | exact ⟨c3, c4, HK.out.drew⟩
        | (go_split_ands; exact ⟨(HCL.out _ hkd).1, (HCL.out _ hkd).2, hkd⟩)
        | (go_split_ands; exact ⟨(HCL.out _ (Keep.alloc hkd _)).1, (HCL.out _ (Keep.alloc hkd _)).2, Keep.alloc hkd _⟩))
      (first
        | (go_at_call 89; refine hT1.out.mono ?_; rintro e w1 ⟨A1, n1, c1, rfl, O1'⟩; obtain ⟨O1, NR, hkd⟩ := gatherB_take HK.out HO.out O1'; have G1 := Lib.hid (show _ ∧ _ from ⟨O1, NR⟩); clear NR O1 O1')
        | (refine step_append_rec _ (by rfl) _ _ _ (by rfl) W0.heap.size 23 i0 _ 1 24 Try.underlying143 hi0 hz0 hz1 hz2 rfl (by omega) (BytesR.offs (base := base)) hb (by decide) rfl L V (by rfl) G1.out.1 _ _ _ rfl (by rfl) G1.out.2 G1.out.2.one (by simp only [maxLen]; omega) (by omega) (Keep.size (by assumption)) ?_; intro v2 w2 O2 hk2 _; have hkx := hkd; clear hkd; have hkd : Keep No W0 w2 := hkx.trans hk2 (fun _ e => .inr (G1.out.1.ge e)); have G2 := Lib.hid O2; clear O2 hk2 hkx)
        | (go_at_call 88; have _t := tok1; refine (HL.out _ _ hkd G2.out).mono ?_; clear hkd tok1; rintro e w3 ⟨A3, c3, rfl, hc3, O3, hkd⟩; have G3 := Lib.hid O3; clear O3 _t)
        | (go_at_call 88; refine (HR.out _ _ hkd G3.out).mono ?_; clear hkd; rintro e w4 hG; obtain ⟨A4, c4, rfl, hc4, O4, hkd⟩ := id hG; have G4 := Lib.hid hG; clear hG O4))
    go_wp2
    go_ret
    exact G4.out
end Go.Proofs.Ytdmckjojeddaaaa
