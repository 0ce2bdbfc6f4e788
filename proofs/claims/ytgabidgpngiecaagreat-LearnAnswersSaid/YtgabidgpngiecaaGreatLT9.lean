/- Contract of learn's Tree. Conditions: each names its own. -/
import Derived.Test.YtgabidgpngiecaaGreatLT8
import Derived.Test.YtgabidgpngiecaaGreatL5
import Derived.Laws.EntriesVeiled
namespace Go.Proofs.YtgabidgpngiecaaGreat
open Go.RowKit Go.Proofs.YtgabidgpngiecaaGreatKit Go.Proofs.YtgabidgpngiecaaGreatPlain

/-- What Tree gives. -/
def TreeRet (w : World) (l : List Row) (levels : Nat) (least : Int) (e : Ending) (w' : World) : Prop :=
  (l = [] ∧ e = .returned (.tuple #[.slice none 0 0, .int .i64 3]) ∧ Keep No w w') ∨
  (l ≠ [] ∧ ∃ L ov, (expand L).Perm l ∧ Canon L ∧ (∀ p ∈ L, 0 < p.2 ∧ okRow p.1) ∧ e = .returned (.tuple #[ov, .int .i64 0]) ∧ BOwn w.heap.size w' ov (treeL least levels L 0) ∧ Keep No w w')
set_option maxHeartbeats 1000000 in
set_option maxRecDepth 100000 in
theorem tree_any {base : Nat} {w : World} {mb b : Nat} {l : List Row} (h : Mdl base w mb b l) (levels : Nat) (hlv : levels ≤ 6) (least : Int) (h1 : 1 ≤ least) (h2 : least ≤ 1000000) :
    Calls Tryz.prog 13 #[.pointer (some ⟨mb, 0, none⟩), .int .i64 (levels : Nat), .int .i64 least] w (TreeRet w l levels least) := by
  have H := Lib.hid h
  have HB1 := Lib.hid (Blk.new w 3 #[.int .i64 least])
  have HLen := Lib.hid (mlen_any (h.new_ ((Keep.refl No w).alloc (.cells #[.int .i64 least] 3))))
  have hll := h.len
  have HHV := Lib.hid (show _ ∧ _ ∧ _ from ⟨hlv, h1, h2⟩)
  clear h
  have f0 := HB1.out.cell 0
  rw [show (#[Value.int .i64 least] : Array Value)[0]? = some (.int .i64 least) from rfl] at f0
  have j0 : (0 : Int) ≤ (levels : Int) := by omega
  have j1 : (levels : Int) ≤ 6 := by omega
  go_enter Tryz.func13, Tryz.ntmps13
  go_wp2_with fail
  refine HLen.out.mono ?_
  rintro e w2 ⟨rfl, rfl⟩
  clear HLen
  by_cases h0 : l.length = 0
  · have hd : ((l.length : Int) == 0) = true := by rw [h0]; rfl
    have H0 := Lib.hid h0
    clear h0
    go_wp2_with fail
    go_ret2
    exact .inl ⟨List.length_eq_zero_iff.1 H0.out, rfl, (Keep.refl No w).alloc _⟩
  have hd : ((l.length : Int) == 0) = false := by
    rw [beq_eq_false_iff_ne]
    omega
  have H0 := Lib.hid h0
  clear h0 f0
  have hz1 : (w.alloc (.cells #[.int .i64 least] 3)).heap.size = w.heap.size + 1 := by simp
  have hz2 : ((w.alloc (.cells #[.int .i64 least] 3)).alloc (.cells #[.slice none 0 0] 49)).heap.size = w.heap.size + 1 + 1 := by simp
  have b2 := Blk.new (w.alloc (.cells #[.int .i64 least] 3)) 49 #[.slice none 0 0]
  rw [hz1] at b2
  have b3 := Blk.new ((w.alloc (.cells #[.int .i64 least] 3)).alloc (.cells #[.slice none 0 0] 49)) 84 #[growV (w.heap.size + 1) w.heap.size (w.heap.size + 1 + 1)]
  rw [hz2] at b3
  have HBX := Lib.hid (show GBox _ (w.heap.size + 1) w.heap.size (w.heap.size + 1 + 1) (.slice none 0 0) least (growV (w.heap.size + 1) w.heap.size (w.heap.size + 1 + 1)) from ⟨b2.alloc _, (HB1.out.alloc _).alloc _, b3⟩)
  have KA := Lib.hid ((((Keep.refl No w).alloc (.cells #[.int .i64 least] 3)).alloc (.cells #[.slice none 0 0] 49)).alloc (.cells #[growV (w.heap.size + 1) w.heap.size (w.heap.size + 1 + 1)] 84))
  have HSO := Lib.hid (fun W (hW : Keep No w W) => sorted_full (H.out.new_ hW))
  have HLL := Lib.hid hll
  clear hz1 hz2 b2 b3 HB1 hll
  unfold growV at HBX KA
  go_upto_region 8 with fail
  generalize (((w.alloc (.cells #[.int .i64 least] 3)).alloc (.cells #[.slice none 0 0] 49)).alloc (.cells #[.func (.func 35) #[] #[.pointer (some ⟨w.heap.size + 1, 0, none⟩), .pointer (some ⟨w.heap.size, 0, none⟩), .pointer (some ⟨w.heap.size + 1 + 1, 0, none⟩)]] 84)) = w3 at *
  have HG := Lib.hid (fun W (v : Value) (L : List (Row × Nat)) (hk : Keep No w3 W) (hc : Cnt w3.heap.size W v L) (hp : (expand L).Perm l) (hok : ∀ p ∈ L, 0 < p.2 ∧ okRow p.1) => grow_any (least := least) levels HHV.out.1 (show GrowPre w.heap.size w3.heap.size W (w.heap.size + 1) w.heap.size (w.heap.size + 1 + 1) v (.slice none 0 0) [] least levels L from
    ⟨⟨HBX.out.out.keep hk (fun x => x), HBX.out.lea.keep hk (fun x => x), HBX.out.fn.keep hk (fun x => x)⟩, World.ownsRow_nil _ _ _ _, hc, Nat.le_trans KA.out.size hk.size, by have := HHV.out.1; have h2 : 2 ^ (levels + 1) ≤ 2 ^ 7 := Nat.pow_le_pow_right (by omega) (by omega); simp only [List.length_nil]; omega, by rw [hp.length_eq]; exact HLL.out, hok⟩))
  go_region_held3 (fun W => W.cell? ⟨w.heap.size + 1 + 1, 0, none⟩ = some (.func (.func 35) #[] #[.pointer (some ⟨w.heap.size + 1, 0, none⟩), .pointer (some ⟨w.heap.size, 0, none⟩), .pointer (some ⟨w.heap.size + 1 + 1, 0, none⟩)]) ∧ True)
    (first
      | exact ⟨HBX.out.fn.cell 0, trivial⟩
      | exact ⟨GM4.out.1.bx.fn.cell 0, trivial⟩
      | exact ⟨(HBX.out.fn.keep K4.out (fun x => x)).cell 0, trivial⟩)
    (first
      | (go_at_call 33; go_loud (refine (HSO.out _ KA.out.drew).mono ?_; rintro e w4 ⟨v, L, rfl, hc, hs1, hp, h5, hok, hk, hs2⟩; have HC4 := Lib.hid hc; have HP4 := Lib.hid (show _ ∧ _ from ⟨hp, hok⟩); have HCa := Lib.hid (show Canon L from ⟨hs1, hs2, fun p h => (hok p h).1⟩); have K4 := Lib.hid (show Keep No w3 w4 from hk.of_drew); clear hc hs1 hp h5 hok hk hs2))
      | (go_at_call 35; go_loud (refine (HG.out _ _ _ K4.out HC4.out HP4.out.1 HP4.out.2).mono ?_; rintro e w5 ⟨rfl, ov, hgm⟩; have GM4 := Lib.hid (show _ ∧ True from ⟨hgm, trivial⟩); clear hgm))
      | fail)
  have g0 := GM4.out.1.bx.out.cell 0
  rw [show (#[ov] : Array Value)[0]? = some ov from rfl] at g0
  obtain ⟨A5, c5, hv5, -⟩ := own_shape GM4.out.1.ou
  subst hv5
  go_wp2_with fail
  go_ret2
  refine .inr ⟨fun e => H0.out (by rw [e]; rfl), L, _, HP4.out.1, HCa.out, HP4.out.2, rfl, GM4.out.1.ou, ?_⟩
  exact (KA.out.trans K4.out (fun _ x => x.elim)).trans GM4.out.1.kp (fun k e => .inr (by
    rcases e with e | e
    · omega
    · cases e))
end Go.Proofs.YtgabidgpngiecaaGreat
