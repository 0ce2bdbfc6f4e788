/- Contract of the law's asked. Conditions: each names its own. -/
import Derived.Test.YtdmckjojeddaaaaW2
import Derived.Test.YtdmckjojeddaaaaZ0
import Derived.Test.YtdmckjojeddaaaaR9
import Derived.Test.YtdmckjojeddaaaaU6
import Derived.Test.YtdmckjojeddaaaaRA
import Derived.Test.YtdmckjojeddaaaaPA
namespace Go.Proofs.Ytdmckjojeddaaaa
open Go.RowKit Go.Proofs.YtdmckjojeddaaaaKit Go.Proofs.YtdmckjojeddaaaaPlain

/-- One operation of a script, by value. -/
def opCells (kind : Int) (A : Option Addr) (n c : Nat) (V : Option Addr) (vn vc : Nat) (B : Option Addr) (n2 c2 : Nat) (bd : Bool) (N : Int) : Array Value := #[.int .i64 kind, .slice A n c, .slice V vn vc, .slice B n2 c2, .bool bd, .int .i64 N]

theorem getL_okay {l : PairL} {key v : List UInt8} (h : Okay l) (hg : getL l key = some v) : v.length ≤ 1000 := by
  unfold getL at hg
  split at hg
  · cases hp : l[rank key l]? with
    | none => rw [hp] at hg; cases hg
    | some p =>
      rw [hp] at hg
      simp at hg
      subst hg
      exact (h p (List.mem_of_getElem? hp)).2.2
  · cases hg

theorem MSt.nodesAll {base : Nat} {w : World} {mb : Nat} {seed : Int} {l : PairL} {F : List Nat} (h : MSt base w mb seed l F) : (∀ x ∈ nodesL seed l, keyOk x.key x.value) ∧ (∀ key, ∀ s ∈ proveL seed l key, keyOk s.key s.value ∧ 0 ≤ s.left ∧ 0 ≤ s.right) := by
  have hok := h.okay
  obtain ⟨t, _, hwf, rfl, _⟩ := h
  exact ⟨nodesL_mem hwf (fun p => keyOk p.1 p.2) hok, fun key => proveL_mem hwf hok⟩

set_option maxHeartbeats 4000000 in
set_option maxRecDepth 100000 in
theorem asked2 {base : Nat} {w : World} {seed : Int} {mb : Nat} {l : PairL} {F : List Nat} {Lp : Option Addr} {m d : Nat} {A : Option Addr} {n c : Nat} {V : Option Addr} {vn vc : Nat} {B : Option Addr} {n2 c2 : Nat} {bd : Bool} {N : Int} {key high : List UInt8}
    (h : MSt base w mb seed l F) (hl : Pairs base w Lp m l) (hmd : m ≤ d) (hk : Bytes base w A n key) (hk2 : Bytes base w B n2 high) (hb : base ≤ w.heap.size) (hsz : l.length ≤ 40000) (hn : n ≤ 1000000) (hn2 : n2 ≤ 1000000) :
    Calls Try.prog 95 #[.pointer (some ⟨mb, 0, none⟩), .int .u64 seed, .slice Lp m d, .agg #[.int .i64 2, .slice A n c, .slice V vn vc, .slice B n2 c2, .bool bd, .int .i64 N]] w fun e w' => e = .returned (.bool true) ∧ Keep No w w' := by
  have HB := Lib.hid (Blk.new w 113 #[.int .i64 2, .slice A n c, .slice V vn vc, .slice B n2 c2, .bool bd, .int .i64 N])
  have f0 := HB.out.cell 0
  have f1 := HB.out.cell 1
  have f3 := HB.out.cell 3
  have f4 := HB.out.cell 4
  have f5 := HB.out.cell 5
  simp only [List.getElem?_toArray, List.getElem?_cons_zero, List.getElem?_cons_succ] at f0 f1 f3 f4 f5
  have HW := Lib.hid ((Keep.refl No w).alloc (.cells #[.int .i64 2, .slice A n c, .slice V vn vc, .slice B n2 c2, .bool bd, .int .i64 N] 113))
  have hok := h.okay
  have hso := h.sorted
  have hsm := hok.small
  obtain rfl := hl.len (by omega)
  have H := Lib.hid (show _ ∧ _ ∧ _ ∧ _ from ⟨h, hl, hk, hk2⟩)
  have HS := Lib.hid (show _ ∧ _ ∧ _ from ⟨hok, hso, hsm⟩)
  clear hl hk hk2
  have HG := Lib.hid (mget_any (c := c) (h.new_ HW.out) (H.out.2.2.1.new_ HW.out))
  have HRG := Lib.hid (fun W (k : Keep No w W) => rget_any (b2 := base) Lp A _ d n c l key W (H.out.2.1.new_ k) (H.out.2.2.1.new_ k) hsm hn (by omega))
  have HGV := Lib.hid (fun v (hg : getL l key = some v) => getL_okay hok hg)
  generalize getL l key = g at *
  clear h hok hso hsm f3 f4 f5
  go_enter Try.func95, Try.ntmps95
  go_wp2_with fail
  generalize hW0 : w.alloc (.cells #[.int .i64 2, .slice A n c, .slice V vn vc, .slice B n2 c2, .bool bd, .int .i64 N] 113) = w0 at *
  clear hW0 f0 f1
  cases g with
  | none =>
    refine HG.out.mono ?_
    rintro e w1 ⟨k1, rfl⟩
    have K1 := Lib.hid (HW.out.trans k1 (fun _ x => x.elim))
    have hB1 := HB.out.keep k1 (fun x => x)
    have f1 := hB1.cell 1
    simp only [List.getElem?_toArray, List.getElem?_cons_zero, List.getElem?_cons_succ] at f1
    clear k1 hB1 HB HG
    go_wp2_with fail
    refine (HRG.out w1 K1.out).mono ?_
    rintro e w2 ⟨⟨q, rfl⟩, rfl⟩
    go_wp2_with fail
    refine (same_any (b1 := base) (b2 := base) none none 0 0 0 0 [] [] _ Bytes.none_ Bytes.none_ (by omega) (by omega)).mono ?_
    rintro e w3 ⟨rfl, q3, rfl⟩
    go_wp2
    go_ret
    exact ⟨rfl, K1.out.drewN _⟩
  | some v =>
    have hv := HGV.out v rfl
    refine HG.out.mono ?_
    rintro e w1 ⟨k1, A1, c1, rfl, hc1, ho1⟩
    have K1 := Lib.hid (HW.out.trans k1 (fun _ x => x.elim))
    have hB1 := HB.out.keep k1 (fun x => x)
    have f1 := hB1.cell 1
    simp only [List.getElem?_toArray, List.getElem?_cons_zero, List.getElem?_cons_succ] at f1
    have HO := Lib.hid (Bytes.of_own (base := base) ho1)
    clear k1 hB1 HB HG ho1 HGV
    go_wp2_with fail
    refine (HRG.out w1 K1.out).mono ?_
    rintro e w2 ⟨⟨q, rfl⟩, A2, c2', rfl, hb2⟩
    have HO2 := Lib.hid hb2
    clear hb2
    go_wp2_with fail
    refine (same_any (b1 := base) (b2 := base) A1 A2 _ c1 _ c2' v v _ (HO.out.drewN q) HO2.out (by omega) (by omega)).mono ?_
    rintro e w3 ⟨rfl, q3, rfl⟩
    go_wp2
    go_ret
    exact ⟨by simp, K1.out.drewN _⟩

set_option maxHeartbeats 4000000 in
set_option maxRecDepth 100000 in
theorem asked3 {base : Nat} {w : World} {seed : Int} {mb : Nat} {l : PairL} {F : List Nat} {Lp : Option Addr} {m d : Nat} {A : Option Addr} {n c : Nat} {V : Option Addr} {vn vc : Nat} {B : Option Addr} {n2 c2 : Nat} {bd : Bool} {N : Int} {key high : List UInt8}
    (h : MSt base w mb seed l F) (hl : Pairs base w Lp m l) (hmd : m ≤ d) (hk : Bytes base w A n key) (hk2 : Bytes base w B n2 high) (hb : base ≤ w.heap.size) (hsz : l.length ≤ 40000) (hn : n ≤ 1000000) (hn2 : n2 ≤ 1000000) :
    Calls Try.prog 95 #[.pointer (some ⟨mb, 0, none⟩), .int .u64 seed, .slice Lp m d, .agg #[.int .i64 3, .slice A n c, .slice V vn vc, .slice B n2 c2, .bool bd, .int .i64 N]] w fun e w' => e = .returned (.bool true) ∧ Keep No w w' := by
  have HB := Lib.hid (Blk.new w 113 #[.int .i64 3, .slice A n c, .slice V vn vc, .slice B n2 c2, .bool bd, .int .i64 N])
  have f0 := HB.out.cell 0
  have f1 := HB.out.cell 1
  have f3 := HB.out.cell 3
  have f4 := HB.out.cell 4
  have f5 := HB.out.cell 5
  simp only [List.getElem?_toArray, List.getElem?_cons_zero, List.getElem?_cons_succ] at f0 f1 f3 f4 f5
  have HW := Lib.hid ((Keep.refl No w).alloc (.cells #[.int .i64 3, .slice A n c, .slice V vn vc, .slice B n2 c2, .bool bd, .int .i64 N] 113))
  have hok := h.okay
  have hso := h.sorted
  have hsm := hok.small
  obtain rfl := hl.len (by omega)
  have H := Lib.hid (show _ ∧ _ ∧ _ ∧ _ from ⟨h, hl, hk, hk2⟩)
  have HS := Lib.hid (show _ ∧ _ ∧ _ from ⟨hok, hso, hsm⟩)
  clear hl hk hk2
  have HW1 := Lib.hid (whole_any (d := d) (h.new_ HW.out) (H.out.2.1.new_ HW.out) hmd (Nat.le_trans hb HW.out.size) (by omega))
  clear h hok hso hsm f1 f3 f4 f5
  go_enter Try.func95, Try.ntmps95
  go_wp2_with fail
  generalize hW0 : w.alloc (.cells #[.int .i64 3, .slice A n c, .slice V vn vc, .slice B n2 c2, .bool bd, .int .i64 N] 113) = w0 at *
  clear hW0 f0
  refine HW1.out.mono ?_
  rintro e w1 ⟨rfl, k1⟩
  have K1 := Lib.hid (HW.out.trans k1 (fun _ x => x.elim))
  clear k1
  go_wp2
  go_ret
  exact ⟨rfl, K1.out⟩

set_option maxHeartbeats 4000000 in
set_option maxRecDepth 100000 in
theorem asked6 {base : Nat} {w : World} {seed : Int} {mb : Nat} {l : PairL} {F : List Nat} {Lp : Option Addr} {m d : Nat} {A : Option Addr} {n c : Nat} {V : Option Addr} {vn vc : Nat} {B : Option Addr} {n2 c2 : Nat} {bd : Bool} {N : Int} {key high : List UInt8}
    (h : MSt base w mb seed l F) (hl : Pairs base w Lp m l) (hmd : m ≤ d) (hk : Bytes base w A n key) (hk2 : Bytes base w B n2 high) (hb : base ≤ w.heap.size) (hsz : l.length ≤ 40000) (hn : n ≤ 1000000) (hn2 : n2 ≤ 1000000) :
    Calls Try.prog 95 #[.pointer (some ⟨mb, 0, none⟩), .int .u64 seed, .slice Lp m d, .agg #[.int .i64 6, .slice A n c, .slice V vn vc, .slice B n2 c2, .bool bd, .int .i64 N]] w fun e w' => e = .returned (.bool true) ∧ Keep No w w' := by
  have HB := Lib.hid (Blk.new w 113 #[.int .i64 6, .slice A n c, .slice V vn vc, .slice B n2 c2, .bool bd, .int .i64 N])
  have f0 := HB.out.cell 0
  have f1 := HB.out.cell 1
  have f3 := HB.out.cell 3
  have f4 := HB.out.cell 4
  have f5 := HB.out.cell 5
  simp only [List.getElem?_toArray, List.getElem?_cons_zero, List.getElem?_cons_succ] at f0 f1 f3 f4 f5
  have HW := Lib.hid ((Keep.refl No w).alloc (.cells #[.int .i64 6, .slice A n c, .slice V vn vc, .slice B n2 c2, .bool bd, .int .i64 N] 113))
  have hok := h.okay
  have hso := h.sorted
  have hsm := hok.small
  obtain rfl := hl.len (by omega)
  have H := Lib.hid (show _ ∧ _ ∧ _ ∧ _ from ⟨h, hl, hk, hk2⟩)
  have HS := Lib.hid (show _ ∧ _ ∧ _ from ⟨hok, hso, hsm⟩)
  clear hl hk hk2
  have HN := Lib.hid (nodes_any (h.new_ HW.out) (Nat.le_trans hb HW.out.size) (by omega))
  have HR := Lib.hid (fun W (k : Keep No w W) => rnodes_any (seed := seed) (d := d) (H.out.2.1.new_ k) hmd hok (by omega) (Nat.le_trans hb k.size))
  have HNK := Lib.hid h.nodesAll.1
  have hln : (nodesL seed l).length ≤ 40000 := by rw [nodesL_length]; exact hsz
  generalize nodesL seed l = nl at *
  clear h hok hso hsm f1 f3 f4 f5
  go_enter Try.func95, Try.ntmps95
  go_wp2_with fail
  generalize hW0 : w.alloc (.cells #[.int .i64 6, .slice A n c, .slice V vn vc, .slice B n2 c2, .bool bd, .int .i64 N] 113) = w0 at *
  clear hW0 f0
  refine HN.out.mono ?_
  rintro e w1 ⟨A1, c1, rfl, hc1, o1, k1⟩
  have K1 := Lib.hid (HW.out.trans k1 (fun _ x => x.elim))
  have S1 := Lib.hid (show NodesAt base w1 A1 nl.length nl from OwnR.recs o1 rfl)
  clear k1 o1 HN hc1
  go_wp2_with fail
  refine (HR.out w1 K1.out).mono ?_
  rintro e w2 ⟨A2, c2', rfl, hc2, o2, k2⟩
  have K2 := Lib.hid (K1.out.trans k2 (fun _ x => x.elim))
  have S2 := Lib.hid (show NodesAt base w2 A2 nl.length nl from OwnR.recs o2 rfl)
  have S1' := Lib.hid (NodesAt.new_ S1.out k2)
  clear k2 o2 HR hc2
  go_wp2_with fail
  refine (samenodes_any (base := base) A1 A2 _ c1 _ c2' nl w2 S1'.out S2.out HNK.out (by omega)).mono ?_
  rintro e w3 ⟨rfl, k3⟩
  have K3 := Lib.hid (K2.out.trans k3 (fun _ x => x.elim))
  clear k3
  go_wp2
  go_ret
  exact ⟨rfl, K3.out⟩

set_option maxHeartbeats 4000000 in
set_option maxRecDepth 100000 in
theorem asked5 {base : Nat} {w : World} {seed : Int} {mb : Nat} {l : PairL} {F : List Nat} {Lp : Option Addr} {m d : Nat} {A : Option Addr} {n c : Nat} {V : Option Addr} {vn vc : Nat} {B : Option Addr} {n2 c2 : Nat} {bd : Bool} {N : Int} {key high : List UInt8}
    (h : MSt base w mb seed l F) (hl : Pairs base w Lp m l) (hmd : m ≤ d) (hk : Bytes base w A n key) (hk2 : Bytes base w B n2 high) (hb : base ≤ w.heap.size) (hsz : l.length ≤ 40000) (hn : n ≤ 1000000) (hn2 : n2 ≤ 1000000) :
    Calls Try.prog 95 #[.pointer (some ⟨mb, 0, none⟩), .int .u64 seed, .slice Lp m d, .agg #[.int .i64 5, .slice A n c, .slice V vn vc, .slice B n2 c2, .bool bd, .int .i64 N]] w fun e w' => e = .returned (.bool true) ∧ Keep No w w' := by
  have HB := Lib.hid (Blk.new w 113 #[.int .i64 5, .slice A n c, .slice V vn vc, .slice B n2 c2, .bool bd, .int .i64 N])
  have f0 := HB.out.cell 0
  have f1 := HB.out.cell 1
  have f3 := HB.out.cell 3
  have f4 := HB.out.cell 4
  have f5 := HB.out.cell 5
  simp only [List.getElem?_toArray, List.getElem?_cons_zero, List.getElem?_cons_succ] at f0 f1 f3 f4 f5
  have HW := Lib.hid ((Keep.refl No w).alloc (.cells #[.int .i64 5, .slice A n c, .slice V vn vc, .slice B n2 c2, .bool bd, .int .i64 N] 113))
  have hok := h.okay
  have hso := h.sorted
  have hsm := hok.small
  obtain rfl := hl.len (by omega)
  have H := Lib.hid (show _ ∧ _ ∧ _ ∧ _ from ⟨h, hl, hk, hk2⟩)
  have HS := Lib.hid (show _ ∧ _ ∧ _ from ⟨hok, hso, hsm⟩)
  clear hl hk hk2
  obtain ⟨sp, hsp⟩ : ∃ sp, sp = spanPairs key (hiOf bd high) l := ⟨_, rfl⟩
  have hsub : sp.length ≤ l.length := by rw [hsp]; exact List.length_filter_le _ _
  have hoks : Okay sp := fun p hp => hok p (by rw [hsp] at hp; exact (List.mem_filter.1 hp).1)
  have HSP := Lib.hid (fun W (k : Keep No w W) => span_any (c := c) (c' := c2) (bd := bd) (h.new_ k) (Nat.le_trans hb k.size) (by omega) (H.out.2.2.1.new_ k) (H.out.2.2.2.new_ k))
  have HSD := Lib.hid (fun W (k : Keep No w W) => spanDigest_any (c := c) (d := c2) (bd := bd) (h.new_ k) (H.out.2.2.1.new_ k) (H.out.2.2.2.new_ k) (by omega))
  have HRS := Lib.hid (fun W (k : Keep No w W) => rspan_any Lp A B l.length d n c n2 c2 l key high bd W (H.out.2.1.new_ k) hmd (H.out.2.2.1.new_ k) (H.out.2.2.2.new_ k) hsm hn hn2 (by omega))
  have e5 : (if bd then some high else none) = hiOf bd high := rfl
  rw [span_pairs hso, ← hsp] at HSP
  rw [e5, ← hsp] at HSD
  rw [rspan_pairs hso, ← hsp] at HRS
  have HRD := Lib.hid (fun W (A8 : Option Addr) (c8 : Nat) (hp : Pairs base W A8 sp.length sp) (hc : sp.length ≤ c8) (k : Keep No w W) => rdigest_any (seed := seed) hp hc hoks (by omega) (Nat.le_trans hb k.size))
  have HOS := Lib.hid hoks.small
  generalize digest seed sp = dg at *
  clear h hok hso hsm e5 hsp hoks
  go_enter Try.func95, Try.ntmps95
  go_wp2_with fail
  generalize hW0 : w.alloc (.cells #[.int .i64 5, .slice A n c, .slice V vn vc, .slice B n2 c2, .bool bd, .int .i64 N] 113) = w0 at *
  clear hW0 f0 f1 f3 f4 f5
  refine (HRS.out _ HW.out).mono ?_
  rintro e w1 ⟨A8, c8, rfl, hc8, p8, q8, rfl⟩
  have K1 := Lib.hid (HW.out.drewN q8)
  have P1 := Lib.hid p8
  have hB1 := HB.out.keep ((Keep.refl No w0).drewN q8) (fun x => x)
  have f1 := hB1.cell 1
  have f3 := hB1.cell 3
  have f4 := hB1.cell 4
  have f5 := hB1.cell 5
  simp only [List.getElem?_toArray, List.getElem?_cons_zero, List.getElem?_cons_succ] at f1 f3 f4 f5
  have HB1 := Lib.hid hB1
  clear hB1 p8 HRS HB
  go_wp2_with fail
  refine (HSD.out _ K1.out).mono ?_
  rintro e w2 ⟨rfl, k2⟩
  have K2 := Lib.hid (K1.out.trans k2 (fun _ x => x.elim))
  have P2 := Lib.hid (P1.out.new_ k2)
  clear f1 f3 f4 f5
  have hB2 := HB1.out.keep k2 (fun x => x)
  have f1 := hB2.cell 1
  have f3 := hB2.cell 3
  have f4 := hB2.cell 4
  have f5 := hB2.cell 5
  simp only [List.getElem?_toArray, List.getElem?_cons_zero, List.getElem?_cons_succ] at f1 f3 f4 f5
  have HB2 := Lib.hid hB2
  clear hB2 k2 HB1 HSD P1
  go_wp2_with fail
  refine (HRD.out w2 A8 c8 P2.out hc8 K2.out).mono ?_
  rintro e w3 ⟨rfl, k3⟩
  have K3 := Lib.hid (K2.out.trans k3 (fun _ x => x.elim))
  have P3 := Lib.hid (P2.out.new_ k3)
  clear f1 f3 f4 f5
  have hB3 := HB2.out.keep k3 (fun x => x)
  have f1 := hB3.cell 1
  have f3 := hB3.cell 3
  have f4 := hB3.cell 4
  have f5 := hB3.cell 5
  simp only [List.getElem?_toArray, List.getElem?_cons_zero, List.getElem?_cons_succ] at f1 f3 f4 f5
  have HB3 := Lib.hid hB3
  clear hB3 k3 HB2 HRD P2
  go_wp2_with fail
  refine (HSP.out _ K3.out).mono ?_
  rintro e w4 ⟨A5, c5, rfl, hc5, o5, k5⟩
  have K4 := Lib.hid (K3.out.trans k5 (fun _ x => x.elim))
  have P4 := Lib.hid (show _ ∧ _ from ⟨o5.pairs (base := base), P3.out.new_ k5⟩)
  clear f1 f3 f4 f5 k5 o5 HB3 P3 HSP
  go_wp2_with fail
  refine (samepairs_any (b1 := base) (b2 := base) A5 A8 _ c5 _ c8 sp w4 P4.out.1 P4.out.2 HOS.out (by omega)).mono ?_
  rintro e w5 ⟨rfl, q5, rfl⟩
  go_wp2
  go_ret
  exact ⟨rfl, K4.out.drewN _⟩

set_option maxHeartbeats 4000000 in
set_option maxRecDepth 100000 in
theorem asked7 {base : Nat} {w : World} {seed : Int} {mb : Nat} {l : PairL} {F : List Nat} {Lp : Option Addr} {m d : Nat} {A : Option Addr} {n c : Nat} {V : Option Addr} {vn vc : Nat} {B : Option Addr} {n2 c2 : Nat} {bd : Bool} {N : Int} {key high : List UInt8}
    (h : MSt base w mb seed l F) (hl : Pairs base w Lp m l) (hmd : m ≤ d) (hk : Bytes base w A n key) (hk2 : Bytes base w B n2 high) (hb : base ≤ w.heap.size) (hsz : l.length ≤ 40000) (hn : n ≤ 1000000) (hn2 : n2 ≤ 1000000) :
    Calls Try.prog 95 #[.pointer (some ⟨mb, 0, none⟩), .int .u64 seed, .slice Lp m d, .agg #[.int .i64 7, .slice A n c, .slice V vn vc, .slice B n2 c2, .bool bd, .int .i64 N]] w fun e w' => e = .returned (.bool true) ∧ Keep No w w' := by
  have HB := Lib.hid (Blk.new w 113 #[.int .i64 7, .slice A n c, .slice V vn vc, .slice B n2 c2, .bool bd, .int .i64 N])
  have f0 := HB.out.cell 0
  have f1 := HB.out.cell 1
  have f3 := HB.out.cell 3
  have f4 := HB.out.cell 4
  have f5 := HB.out.cell 5
  simp only [List.getElem?_toArray, List.getElem?_cons_zero, List.getElem?_cons_succ] at f0 f1 f3 f4 f5
  have HW := Lib.hid ((Keep.refl No w).alloc (.cells #[.int .i64 7, .slice A n c, .slice V vn vc, .slice B n2 c2, .bool bd, .int .i64 N] 113))
  have hok := h.okay
  have hso := h.sorted
  have hsm := hok.small
  obtain rfl := hl.len (by omega)
  have H := Lib.hid (show _ ∧ _ ∧ _ ∧ _ from ⟨h, hl, hk, hk2⟩)
  have HS := Lib.hid (show _ ∧ _ ∧ _ from ⟨hok, hso, hsm⟩)
  clear hl hk hk2
  have hall := h.nodesAll
  have HPR := Lib.hid (fun W (k : Keep No w W) => prove_any (n := n) (c := c) (A := A) (h.new_ k) (H.out.2.2.1.new_ k) (Nat.le_trans hb k.size) (by omega))
  have HRP := Lib.hid (fun W (k : Keep No w W) => rprove_any (seed := seed) (d := d) (n := n) (c := c) (A := A) (key := key) (H.out.2.1.new_ k) hmd hok (by omega) (Nat.le_trans hb k.size) (H.out.2.2.1.new_ k) hn hall.1)
  have HSS := Lib.hid (fun W (L1 L2 : Option Addr) (d1 d2 : Nat) (h1 : Sides base W L1 (proveL seed l key).length (proveL seed l key)) (h2 : Sides base W L2 (proveL seed l key).length (proveL seed l key)) => samesides_any (b1 := base) (b2 := base) L1 L2 _ d1 _ d2 _ W h1 h2 (fun s hs => by obtain ⟨⟨h1, h2, h3⟩, _⟩ := hall.2 key s hs; omega) (by have := proveL_length seed l key; omega))
  generalize proveL seed l key = pr at *
  have hb7 : w.heap.size < (w.alloc (.cells #[.int .i64 7, .slice A n c, .slice V vn vc, .slice B n2 c2, .bool bd, .int .i64 N] 113)).heap.size := by simp
  clear h hok hso hsm f3 f4 f5 hall
  go_enter Try.func95, Try.ntmps95
  go_wp2_with fail
  generalize hW0 : w.alloc (.cells #[.int .i64 7, .slice A n c, .slice V vn vc, .slice B n2 c2, .bool bd, .int .i64 N] 113) = w0 at *
  clear hW0 f0
  have F1 := Lib.hid f1
  have HPR' := Lib.hid (fun W (k : Keep No w0 W) => HPR.out W (HW.out.trans k (fun _ x => x.elim)))
  have HRP' := Lib.hid (fun W (k : Keep No w0 W) => HRP.out W (HW.out.trans k (fun _ x => x.elim)))
  clear HPR HRP
  go_region_held3 (fun W => W.cell? ⟨w.heap.size, 1, none⟩ = some (.slice A n c) ∧ Keep No w0 W)
    (first
      | exact ⟨F1.out, (Keep.refl No w0).drew⟩
      | (go_split_ands; exact ⟨(hkd.cell (p := ⟨w.heap.size, 1, none⟩) (Nat.lt_of_lt_of_le hb7 (Keep.size (by assumption))) (fun x => x)).trans (by assumption), Keep.trans (by assumption) hkd (fun _ x => x.elim)⟩)
      | go_keep)
    (first
      | (go_at_call 28; go_split_ands; refine (HPR'.out _ (by assumption)).mono ?_; rintro e w7 ⟨A7, c7, rfl, hc7, ho7, hkd⟩; have S7 := Lib.hid (show Sides base w7 A7 pr.length pr from OwnR.recs ho7 rfl); have KP := Lib.hid hkd; clear ho7)
      | (go_at_call 31; go_split_ands; refine (HRP'.out _ (by assumption)).mono ?_; rintro e w8 ⟨A8, c8, rfl, hc8, ho8, hkd⟩; have S8 := Lib.hid (show Sides base w8 A8 pr.length pr from OwnR.recs ho8 rfl); have KR := Lib.hid hkd; clear ho8)
      | (go_at_call 30; refine (HSS.out _ _ _ _ _ (by first | exact S7.out | exact Sides.new_ S7.out KR.out) (by first | exact S8.out | exact Sides.new_ S8.out KP.out)).mono ?_; rintro e w9 ⟨rfl, hkd⟩))
  all_goals
    go_split_ands
    go_wp2
    go_ret
    exact ⟨rfl, HW.out.trans (S' := No) (by assumption) (fun _ x => False.elim x)⟩

set_option maxHeartbeats 4000000 in
set_option maxRecDepth 100000 in
theorem asked4 {base : Nat} {w : World} {seed : Int} {mb : Nat} {l : PairL} {F : List Nat} {Lp : Option Addr} {m d : Nat} {A : Option Addr} {n c : Nat} {V : Option Addr} {vn vc : Nat} {B : Option Addr} {n2 c2 : Nat} {bd : Bool} {N : Int} {key high : List UInt8}
    (h : MSt base w mb seed l F) (hl : Pairs base w Lp m l) (hmd : m ≤ d) (hk : Bytes base w A n key) (hk2 : Bytes base w B n2 high) (hb : base ≤ w.heap.size) (hsz : l.length ≤ 40000) (hn : n ≤ 1000000) (hn2 : n2 ≤ 1000000) :
    Calls Try.prog 95 #[.pointer (some ⟨mb, 0, none⟩), .int .u64 seed, .slice Lp m d, .agg #[.int .i64 4, .slice A n c, .slice V vn vc, .slice B n2 c2, .bool bd, .int .i64 N]] w fun e w' => e = .returned (.bool true) ∧ Keep No w w' := by
  have HB := Lib.hid (Blk.new w 113 #[.int .i64 4, .slice A n c, .slice V vn vc, .slice B n2 c2, .bool bd, .int .i64 N])
  have f0 := HB.out.cell 0
  have f1 := HB.out.cell 1
  have f3 := HB.out.cell 3
  have f4 := HB.out.cell 4
  have f5 := HB.out.cell 5
  simp only [List.getElem?_toArray, List.getElem?_cons_zero, List.getElem?_cons_succ] at f0 f1 f3 f4 f5
  have HW := Lib.hid ((Keep.refl No w).alloc (.cells #[.int .i64 4, .slice A n c, .slice V vn vc, .slice B n2 c2, .bool bd, .int .i64 N] 113))
  have hok := h.okay
  have hso := h.sorted
  have hsm := hok.small
  obtain rfl := hl.len (by omega)
  have H := Lib.hid (show _ ∧ _ ∧ _ ∧ _ from ⟨h, hl, hk, hk2⟩)
  have HS := Lib.hid (show _ ∧ _ ∧ _ from ⟨hok, hso, hsm⟩)
  clear hl hk hk2
  have HRK := Lib.hid (fun W (k : Keep No w W) => mrank_any (c := c) (h.new_ k) (H.out.2.2.1.new_ k) (by omega))
  have HRR := Lib.hid (fun W (k : Keep No w W) => rrank_any (b1 := base) (b2 := base) Lp A _ d n c l key W (H.out.2.1.new_ k) (H.out.2.2.1.new_ k) hsm hn (by omega))
  have HA := Lib.hid (mat_any N (h.new_ HW.out) (by omega))
  generalize rank key l = r at *
  by_cases hN : N < 0 ∨ (l.length : Int) ≤ N
  · have hat : atL l N = none := by
      unfold atL
      rcases hN with h1 | h1
      · rw [if_pos h1]
      · rw [if_neg (by omega)]; exact List.getElem?_eq_none (by omega)
    rw [hat] at HA
    have HN := Lib.hid hN
    clear h hok hso hsm f3 f4 hat hN
    go_enter Try.func95, Try.ntmps95
    go_wp2_with fail
    generalize hW0 : w.alloc (.cells #[.int .i64 4, .slice A n c, .slice V vn vc, .slice B n2 c2, .bool bd, .int .i64 N] 113) = w0 at *
    clear hW0 f0 f1 f5
    refine HA.out.mono ?_
    rintro e w1 ⟨rfl, k1⟩
    have K1 := Lib.hid (HW.out.trans k1 (fun _ x => x.elim))
    have hB1 := HB.out.keep k1 (fun x => x)
    have f1 := hB1.cell 1
    have f5 := hB1.cell 5
    simp only [List.getElem?_toArray, List.getElem?_cons_zero, List.getElem?_cons_succ] at f1 f5
    have hl7 := hB1.lt
    clear k1 HB HA f1 f5
    go_wp2_with fail
    have k2 := (Keep.refl No w1).alloc (.cells #[.slice none 0 0, .slice none 0 0] 82)
    have hB2 := hB1.keep k2 (fun x => x)
    have hP2 := Blk.new w1 82 #[.slice none 0 0, .slice none 0 0]
    generalize w1.alloc (.cells #[.slice none 0 0, .slice none 0 0] 82) = w2 at *
    have K2 := Lib.hid (K1.out.trans k2 (fun _ x => x.elim))
    have HR2 := Lib.hid (fun q => HRK.out (w2.drewN q) (K2.out.drewN q))
    have HQ2 := Lib.hid (fun q => HRR.out (w2.drewN q) (K2.out.drewN q))
    have f1 := hB2.cell 1
    simp only [List.getElem?_toArray, List.getElem?_cons_zero, List.getElem?_cons_succ] at f1
    have HB2 := Lib.hid (show _ ∧ _ from ⟨hB2, hP2⟩)
    clear hB1 hB2 hP2 k2 HRK HRR
    go_quiet ((first | (go_at_call 58; exact quiet_drawn (HR2.out _)) | (go_at_call 47; exact quiet_drawn2 (HQ2.out _))))
    have f5 := (HB2.out.1.keep ((Keep.refl No w2).drewN nq) (fun x => x)).cell 5
    have g0 := (HB2.out.2.keep ((Keep.refl No w2).drewN nq) (fun x => x)).cell 0
    have g1 := (HB2.out.2.keep ((Keep.refl No w2).drewN nq) (fun x => x)).cell 1
    simp only [List.getElem?_toArray, List.getElem?_cons_zero, List.getElem?_cons_succ] at f5 g0 g1
    have K3 := Lib.hid (K2.out.drewN nq)
    clear HB2 f1 K2
    rcases HN.out with h1 | h1
    · have q1 : decide (N < 0) = true := decide_eq_true h1
      clear h1 HN
      go_wp2
      go_ret
      exact ⟨rfl, K3.out⟩
    · have q1 : decide (N < 0) = false := decide_eq_false (by omega)
      have q2 : decide ((l.length : Int) ≤ N) = true := decide_eq_true h1
      clear h1 HN
      go_wp2
      go_ret
      exact ⟨rfl, K3.out⟩
  · obtain ⟨j, rfl⟩ : ∃ j : Nat, N = (j : Int) := ⟨N.toNat, by omega⟩
    have hj : j < l.length := by omega
    obtain ⟨p, hp⟩ : ∃ p, l[j]? = some p := ⟨_, List.getElem?_eq_getElem hj⟩
    have hpe : l[j] = p := by rw [List.getElem?_eq_getElem hj] at hp; exact Option.some.inj hp
    have hat : atL l (j : Int) = some p := by unfold atL; rw [if_neg (by omega)]; exact hp
    rw [hat] at HA
    have HPA := Lib.hid (fun W (k : Keep No w W) => Pairs.at_ (H.out.2.1.new_ k) hj)
    rw [hpe] at HPA
    have hps := hsm p (List.mem_of_getElem? hp)
    have q1 : decide ((j : Int) < 0) = false := decide_eq_false (by omega)
    have q2 : decide ((l.length : Int) ≤ (j : Int)) = false := decide_eq_false (by omega)
    have q3 : decide (l.length ≤ j) = false := decide_eq_false (by omega)
    clear h hok hso hsm f3 f4 hat hN hp hpe
    go_enter Try.func95, Try.ntmps95
    go_wp2_with fail
    generalize hW0 : w.alloc (.cells #[.int .i64 4, .slice A n c, .slice V vn vc, .slice B n2 c2, .bool bd, .int .i64 (j : Int)] 113) = w0 at *
    clear hW0 f0 f1 f5
    refine HA.out.mono ?_
    rintro e w1 ⟨A1, c1, A2, c2', rfl, o1, o2, _, _, _, k1⟩
    have K1 := Lib.hid (HW.out.trans k1 (fun _ x => x.elim))
    have HO1 := Lib.hid (show _ ∧ _ from ⟨Bytes.of_own (base := base) o1, Bytes.of_own (base := base) o2⟩)
    have hB1 := HB.out.keep k1 (fun x => x)
    have hl7 := hB1.lt
    clear k1 HB HA o1 o2
    go_wp2_with fail
    have k2 := (Keep.refl No w1).alloc (.cells #[.slice A1 p.1.length c1, .slice A2 p.2.length c2'] 82)
    have hB2 := hB1.keep k2 (fun x => x)
    have hP2 := Blk.new w1 82 #[.slice A1 p.1.length c1, .slice A2 p.2.length c2']
    generalize w1.alloc (.cells #[.slice A1 p.1.length c1, .slice A2 p.2.length c2'] 82) = w2 at *
    have K2 := Lib.hid (K1.out.trans k2 (fun _ x => x.elim))
    have HR2 := Lib.hid (fun q => HRK.out (w2.drewN q) (K2.out.drewN q))
    have HQ2 := Lib.hid (fun q => HRR.out (w2.drewN q) (K2.out.drewN q))
    have f1 := hB2.cell 1
    simp only [List.getElem?_toArray, List.getElem?_cons_zero, List.getElem?_cons_succ] at f1
    have HB2 := Lib.hid (show _ ∧ _ from ⟨hB2, hP2⟩)
    have HO2 := Lib.hid (show _ ∧ _ from ⟨HO1.out.1.new_ k2, HO1.out.2.new_ k2⟩)
    clear hB1 hB2 hP2 k2 HRK HRR
    go_quiet ((first | (go_at_call 58; exact quiet_drawn (HR2.out _)) | (go_at_call 47; exact quiet_drawn2 (HQ2.out _))))
    have f5 := (HB2.out.1.keep ((Keep.refl No w2).drewN nq) (fun x => x)).cell 5
    have g0 := (HB2.out.2.keep ((Keep.refl No w2).drewN nq) (fun x => x)).cell 0
    have g1 := (HB2.out.2.keep ((Keep.refl No w2).drewN nq) (fun x => x)).cell 1
    simp only [List.getElem?_toArray, List.getElem?_cons_zero, List.getElem?_cons_succ] at f5 g0 g1
    have K3 := Lib.hid (K2.out.drewN nq)
    have HO3 := Lib.hid (show _ ∧ _ from ⟨HO2.out.1.drewN nq, HO2.out.2.drewN nq⟩)
    have hps1 := hps.1
    have hps2 := hps.2
    clear HB2 f1 K2 HO1 HO2 HR2 HQ2 hps
    go_wp2_with fail
    generalize w2.drewN nq = w3 at *
    obtain ⟨ad, A3, c3, A4, c4, rfl, him, e0, e1, b3, b4⟩ := HPA.out _ K3.out
    have i0 : (0 : Int) ≤ (j : Int) := by omega
    have i1 : (j : Int) < (l.length : Int) := by omega
    have HS1 := Lib.hid (fun q => same_any A1 A3 _ c1 _ c3 p.1 p.1 (w3.drewN q) (HO3.out.1.drewN q) (b3.drewN q) (by omega) (by omega))
    have HS2 := Lib.hid (fun q => same_any A2 A4 _ c2' _ c4 p.2 p.2 (w3.drewN q) (HO3.out.2.drewN q) (b4.drewN q) (by omega) (by omega))
    rw [decide_eq_true rfl] at HS1 HS2
    clear him b3 b4 HPA
    go_quiet ((first
      | (go_at_call_of 18 (Value.slice A1 p.1.length c1); exact quiet_drawn2 (HS1.out _))
      | (go_at_call_of 18 (Value.slice A2 p.2.length c2'); exact quiet_drawn2 (HS2.out _))))
    go_wp2
    go_ret
    exact ⟨rfl, K3.out.drewN _⟩

set_option maxHeartbeats 4000000 in
set_option maxRecDepth 100000 in
theorem askedO {base : Nat} {w : World} {seed : Int} {mb : Nat} {l : PairL} {F : List Nat} {Lp : Option Addr} {m d : Nat} {A : Option Addr} {n c : Nat} {V : Option Addr} {vn vc : Nat} {B : Option Addr} {n2 c2 : Nat} {bd : Bool} {N : Int} {key high : List UInt8}
    (h : MSt base w mb seed l F) (hl : Pairs base w Lp m l) (hmd : m ≤ d) (hk : Bytes base w A n key) (hk2 : Bytes base w B n2 high) (hb : base ≤ w.heap.size) (hsz : l.length ≤ 40000) (hn : n ≤ 1000000) (hn2 : n2 ≤ 1000000) {kind : Int} (hk0 : kind ≠ 2 ∧ kind ≠ 3 ∧ kind ≠ 4 ∧ kind ≠ 5 ∧ kind ≠ 6 ∧ kind ≠ 7) :
    Calls Try.prog 95 #[.pointer (some ⟨mb, 0, none⟩), .int .u64 seed, .slice Lp m d, .agg #[.int .i64 kind, .slice A n c, .slice V vn vc, .slice B n2 c2, .bool bd, .int .i64 N]] w fun e w' => e = .returned (.bool true) ∧ Keep No w w' := by
  have HB := Lib.hid (Blk.new w 113 #[.int .i64 kind, .slice A n c, .slice V vn vc, .slice B n2 c2, .bool bd, .int .i64 N])
  have f0 := HB.out.cell 0
  have f1 := HB.out.cell 1
  have f3 := HB.out.cell 3
  have f4 := HB.out.cell 4
  have f5 := HB.out.cell 5
  simp only [List.getElem?_toArray, List.getElem?_cons_zero, List.getElem?_cons_succ] at f0 f1 f3 f4 f5
  have HW := Lib.hid ((Keep.refl No w).alloc (.cells #[.int .i64 kind, .slice A n c, .slice V vn vc, .slice B n2 c2, .bool bd, .int .i64 N] 113))
  have hok := h.okay
  have hso := h.sorted
  have hsm := hok.small
  obtain rfl := hl.len (by omega)
  have H := Lib.hid (show _ ∧ _ ∧ _ ∧ _ from ⟨h, hl, hk, hk2⟩)
  have HS := Lib.hid (show _ ∧ _ ∧ _ from ⟨hok, hso, hsm⟩)
  clear hl hk hk2
  have hk2' : (kind == 2) = false := beq_eq_false_iff_ne.2 hk0.1
  have hk3' : (kind == 3) = false := beq_eq_false_iff_ne.2 hk0.2.1
  have hk4' : (kind == 4) = false := beq_eq_false_iff_ne.2 hk0.2.2.1
  have hk5' : (kind == 5) = false := beq_eq_false_iff_ne.2 hk0.2.2.2.1
  have hk6' : (kind == 6) = false := beq_eq_false_iff_ne.2 hk0.2.2.2.2.1
  have hk7' : (kind == 7) = false := beq_eq_false_iff_ne.2 hk0.2.2.2.2.2
  clear h hok hso hsm f1 f3 f4 f5 hk0
  go_enter Try.func95, Try.ntmps95
  go_wp2_with fail
  go_ret
  exact ⟨rfl, HW.out⟩
end Go.Proofs.Ytdmckjojeddaaaa
