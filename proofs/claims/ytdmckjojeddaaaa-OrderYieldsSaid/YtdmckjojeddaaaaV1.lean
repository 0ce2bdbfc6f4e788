/- Contracts of order's All and of its iterator. Conditions: each names its own. -/
import Derived.Test.YtdmckjojeddaaaaU9
import Derived.Test.YtdmckjojeddaaaaRF
import Derived.Test.YtdmckjojeddaaaaT9
import Derived.WalkKit
import Derived.OwnWalkIn
import Derived.TacticsInMore
import Derived.LoopNIn
import Derived.LoopIn
namespace Go.Proofs.Ytdmckjojeddaaaa
open Go.RowKit Go.Proofs.YtdmckjojeddaaaaKit Go.Proofs.YtdmckjojeddaaaaPlain

/-- What comes at a round: a pair, and where its bytes lie: from lo on and below mid; from top on lies nothing of the iterator's. -/
structure Came where
  k : List UInt8
  v : List UInt8
  A : Option Addr
  c : Nat
  B : Option Addr
  d : Nat
  lo : Nat
  mid : Nat
  top : Nat
def Came.pr (x : Came) : Pair := (x.k, x.v)
def Came.cs (x : Came) : List Value := [.slice x.A x.k.length x.c, .slice x.B x.v.length x.d]
def Came.enc (x : Came) : Array Value := #[.slice x.A x.k.length x.c, .slice x.B x.v.length x.d]
def Came.sp (x : Came) (b : Nat) : Prop := (Value.slice x.A x.k.length x.c).ownBlock = some b ∨ (Value.slice x.B x.v.length x.d).ownBlock = some b ∨ x.top ≤ b
def prs (xs : List Came) : List Pair := xs.map Came.pr
/-- What the iterator promises of memory at a round. -/
def Came.M (l : List Pair) (B : Nat) (pre : List Came) (x : Came) (W : World) : Prop := prs (pre ++ [x]) <+: l ∧ B ≤ x.lo ∧ PairAt W x.lo x.mid x.pr x.cs ∧ x.lo ≤ x.mid ∧ x.mid ≤ x.top ∧ x.top ≤ W.heap.size ∧ (∀ y ∈ pre, y.mid ≤ x.lo ∧ y.top = x.top)

section
variable {w w1 : World} {lo mid hi B k c : Nat} {p : Pair} {cs : List Value} {l : List Pair} {xs : List Value} {S : Nat → Prop} {A : Option Addr}
theorem own_keepGe {w w1 : World} {base e size n : Nat} {v : Value} {xs : List Value} (h : w.ownsRow base e size v n xs) (hk : Keep S w w1) (hs : ∀ b, base ≤ b → ¬ S b) : w1.ownsRow base e size v n xs :=
  own_keep h hk (fun k e => hs k (World.ownsRow.lt h k e).1)
theorem PairAt.keepGe (h : PairAt w lo hi p cs) (hk : Keep S w w1) (hs : ∀ b, lo ≤ b → ¬ S b) : PairAt w1 lo hi p cs := by
  obtain ⟨A, c, B, d, e, h1, h2, h3⟩ := h
  exact ⟨A, c, B, d, e, own_keepGe h1 hk hs, own_keepGe h2 hk hs, h3⟩
theorem FlatI.keepGe (h : FlatI w lo l xs hi) (hk : Keep S w w1) (hs : ∀ b, lo ≤ b → ¬ S b) : FlatI w1 lo l xs hi := by
  induction l generalizing lo xs with
  | nil => exact h
  | cons p l ih =>
    obtain ⟨mid, cs, ys, e, h1, h2, h3⟩ := h
    exact ⟨mid, cs, ys, e, h1, h2.keepGe hk hs, ih h3 (fun b hb => hs b (Nat.le_trans h1 hb))⟩
theorem PairAt.keepHi (h : PairAt w lo hi p cs) (hk : Keep S w w1) (hs : ∀ b, lo ≤ b → b < hi → ¬ S b) : PairAt w1 lo hi p cs := by
  obtain ⟨A, c, B, d, e, h1, h2, h3, h4, h5⟩ := h
  exact ⟨A, c, B, d, e, own_keep h1 hk (fun k e => hs k (World.ownsRow.lt h1 k e).1 (h3 k e)), own_keep h2 hk (fun k e => hs k (World.ownsRow.lt h2 k e).1 (h4 k e)), h3, h4, h5⟩
theorem FlatI.keepHi (h : FlatI w lo l xs hi) (hk : Keep S w w1) (hs : ∀ b, lo ≤ b → b < hi → ¬ S b) : FlatI w1 lo l xs hi := by
  induction l generalizing lo xs with
  | nil => exact h
  | cons p l ih =>
    obtain ⟨mid, cs, ys, e, h1, h2, h3⟩ := h
    exact ⟨mid, cs, ys, e, h1, h2.keepHi hk (fun b hb hb' => hs b hb (Nat.lt_of_lt_of_le hb' h3.le)), ih h3 (fun b hb => hs b (Nat.le_trans h1 hb))⟩
theorem own_keepNC {base e size n : Nat} {v : Value} (h : w.ownsRow base e size v n xs) (hk : Keep S w w1) (hs : NoCells w S) : w1.ownsRow base e size v n xs := own_keep h hk fun k e hS => by
  obtain ⟨o, ho, hc⟩ := hs k hS
  rcases h.2 with ⟨rfl, _⟩ | ⟨g, cap, cur, rfl, _, h4, _⟩
  · simp [Value.ownBlock] at e
  · simp [Value.ownBlock] at e
    subst e
    rw [h4] at ho
    injection ho with ho
    subst ho
    simp [Obj.isCells] at hc
theorem PairAt.keepNC (h : PairAt w lo hi p cs) (hk : Keep S w w1) (hs : NoCells w S) : PairAt w1 lo hi p cs := by
  obtain ⟨A, c, B, d, e, h1, h2, h3⟩ := h
  exact ⟨A, c, B, d, e, own_keepNC h1 hk hs, own_keepNC h2 hk hs, h3⟩
theorem Came.stable {B0 : Nat} : Stable B0 (fun (s : List Came × Came) W => Came.M l B s.1 s.2 W) := fun _ _ _ _ h hk hn _ => by
  obtain ⟨h1, h2, h3, h4, h5, h6, h7⟩ := h
  exact ⟨h1, h2, h3.keepNC hk hn, h4, h5, Nat.le_trans h6 hk.size, h7⟩

/-- The pairs from k on still lie as they were laid, all below T. -/
def SeqSt (B T k : Nat) (l : List Pair) (A : Option Addr) (c : Nat) (pre : List Came) (w : World) : Prop :=
  ∃ xs lo, w.ownsRow B 82 2 (.slice A l.length c) l.length xs ∧ (∀ b, (Value.slice A l.length c).ownBlock = some b → b < T) ∧ B ≤ lo ∧ FlatI w lo (l.drop k) (xs.drop (k * 2)) T ∧ T ≤ w.heap.size ∧ ∀ y ∈ pre, y.mid ≤ lo ∧ y.top = T
theorem SeqSt.start (h : OwnPI B l (.slice A l.length c) w) : SeqSt B w.heap.size 0 l A c [] w := by
  obtain ⟨xs, h1, h2⟩ := h
  exact ⟨xs, B, h1, fun b e => (World.ownsRow.lt h1 b e).2, Nat.le_refl _, by simpa using h2, Nat.le_refl _, fun y hy => absurd hy (by simp)⟩
/-- The pair at k, and what a round leaves of the rest. -/
theorem SeqSt.at_ {T : Nat} {pre : List Came} (h : SeqSt B T k l A c pre w) (hk : k < l.length) : ∃ ad x, A = some ad ∧ Imm 0 82 w ad.block ∧ Came.pr x = l[k] ∧
    w.cell? (ad.add (k * 2)) = some (.slice x.A x.k.length x.c) ∧ w.cell? ⟨(ad.add (k * 2)).block, (ad.add (k * 2)).off + 1, none⟩ = some (.slice x.B x.v.length x.d) ∧
    (B ≤ x.lo ∧ PairAt w x.lo x.mid x.pr x.cs ∧ x.lo ≤ x.mid ∧ x.mid ≤ x.top ∧ x.top ≤ w.heap.size ∧ (∀ y ∈ pre, y.mid ≤ x.lo ∧ y.top = x.top)) ∧ (∀ b, x.sp b → B ≤ b) ∧ ∀ w2, Keep (fun b => b < B ∨ x.sp b) w w2 → SeqSt B T (k + 1) l A c (pre ++ [x]) w2 := by
  obtain ⟨xs, lo, h1, hT, h2, h3, hT2, hy⟩ := h
  rw [List.drop_eq_getElem_cons hk] at h3
  obtain ⟨mid, cs, ys, e, h4, ⟨A1, c1, B1, d1, rfl, hp⟩, h6⟩ := h3
  obtain ⟨ad, ea, him, hc⟩ := (Reads.of_own (base := 0) h1 rfl).2 (by omega)
  have hmT := h6.le
  have g0 : xs[k * 2]? = some (.slice A1 l[k].1.length c1) := by
    have := congrArg (fun l => l[0]?) e
    simpa using this
  have g1 : xs[k * 2 + 1]? = some (.slice B1 l[k].2.length d1) := by
    have := congrArg (fun l => l[1]?) e
    simpa using this
  refine ⟨ad, ⟨l[k].1, l[k].2, A1, c1, B1, d1, lo, mid, T⟩, ea, him, rfl, hc _ _ g0, ?_, ⟨h2, ⟨A1, c1, B1, d1, rfl, hp⟩, h4, hmT, hT2, hy⟩, ?_, ?_⟩
  · rw [add_field _ _ 1 (by omega)]
    exact hc _ _ g1
  · rintro b (hb | hb | hb)
    · exact Nat.le_trans h2 (World.ownsRow.lt hp.1 b hb).1
    · exact Nat.le_trans h2 (World.ownsRow.lt hp.2.1 b hb).1
    · exact Nat.le_trans (Nat.le_trans h2 (Nat.le_trans h4 hmT)) hb
  · intro w2 hk2
    have hys : xs.drop ((k + 1) * 2) = ys := by
      rw [Nat.succ_mul, ← List.drop_drop, e]; rfl
    have hblk : ∀ x, (Value.slice A l.length c).ownBlock = some x → ∃ cs t f, w.heap[x]? = some (.cells cs t f) ∧ t ≠ 5 := fun x ex => by
      rcases h1.2 with ⟨h0, _⟩ | ⟨g, cap, cur, h0, _, h8, _⟩
      · rw [h0] at ex; simp [Value.ownBlock] at ex
      · rw [h0] at ex; simp [Value.ownBlock] at ex; subst ex; exact ⟨cur, _, _, h8, by decide⟩
    rw [← hys] at h6
    refine ⟨xs, mid, own_keep h1 hk2 ?_, hT, Nat.le_trans h2 h4, FlatI.keepHi h6 hk2 ?_, Nat.le_trans hT2 hk2.size, ?_⟩
    · rintro b e1 (hb | hb | hb | hb)
      · have := (World.ownsRow.lt h1 b e1).1; omega
      · exact own_noBytes hp.1 (S := fun x => (Value.slice A l.length c).ownBlock = some x) hblk b hb e1
      · exact own_noBytes hp.2.1 (S := fun x => (Value.slice A l.length c).ownBlock = some x) hblk b hb e1
      · have := hT b e1
        exact absurd hb (Nat.not_le.2 this)
    · rintro b hb hbT (h7 | h7 | h7 | h7)
      · omega
      · have := hp.2.2.1 b h7; omega
      · have := hp.2.2.2.1 b h7; omega
      · exact absurd h7 (Nat.not_le.2 hbT)
    · intro y hy'
      rcases List.mem_append.1 hy' with h9 | h9
      · exact ⟨Nat.le_trans (hy y h9).1 h4, (hy y h9).2⟩
      · simp at h9; subst h9; exact ⟨Nat.le_refl _, rfl⟩
end

set_option maxHeartbeats 1000000 in
theorem all_any (v : Option Addr) (w : World) : Calls Try.prog 41 #[.pointer v] w fun e w' =>
    e = .returned (.func (.func 79) #[] #[.pointer (some ⟨w.heap.size, 0, none⟩)]) ∧ w' = w.alloc (.cells #[.pointer v] 38) := by
  go_enter Try.func41, Try.ntmps41
  go_wp2
  go_ret
  exact ⟨rfl, rfl⟩



set_option maxHeartbeats 2000000 in
set_option maxRecDepth 100000 in
theorem seq_any {base : Nat} {w : World} {mb : Nat} {seed : Int} {l : List Pair} {F : List Nat} {n bx : Nat} (hn : 1 ≤ n) (h : MSt base w mb seed l F) (hb : base ≤ w.heap.size) (hsz : l.length ≤ 1000000) (hbx : w.cell? ⟨bx, 0, none⟩ = some (.pointer (some ⟨mb, 0, none⟩))) (hbl : bx < w.heap.size) :
    SeqR Fence.wide n Try.prog 79 #[.pointer (some ⟨bx, 0, none⟩)] Came.enc Came.sp (Came.M l w.heap.size) (fun xs => prs xs = l) (fun pre => prs pre <+: l) w := by
  intro y J Jx W hW hJ hJx hY h0
  have hsz0 := hW.size
  obtain ⟨t, hO, hwf, htl, hF⟩ := h.new_ hW
  have hcell : W.cell? ⟨bx, 0, none⟩ = some (.pointer (some ⟨mb, 0, none⟩)) := (hW.cell (p := ⟨bx, 0, none⟩) hbl (fun x => x)).trans hbx
  have HR := Lib.hid (real_any hO.has)
  obtain ⟨_, _, m2⟩ := hO.has.cells
  have HORD := Lib.hid (ordered_any (base := base) (Nat.le_trans hb hsz0) t hO.rep W [] (.slice none 0 0) (Keep.refl _ _) (OwnPI.start (Nat.le_refl _)) (by rw [← toList_length, htl]; simpa using hsz))
  rw [htl, List.nil_append] at HORD
  have HJ := Lib.hid hJ
  have HY := Lib.hid hY
  have H0 := Lib.hid h0
  clear h hO hwf htl hF hJ hY h0 hJx hW
  refine callsIn_of_wp Try.func79 rfl trivial ?_ rfl
  simp only [Try.ntmps79, List.size_toArray, List.length_cons, List.length_nil, Nat.reduceAdd, Nat.reduceSub, Array.replicate_succ, Array.replicate_zero, List.push_toArray, List.append_toArray, List.nil_append, List.cons_append]
  gi_wp2_with (first
    | (refine ⟨trivial, ?_⟩; gi_at_call 64; refine (callsIn_wide.2 HR.out).mono ?_; rintro e w' ⟨rfl, rfl⟩; clear HR)
    | (refine ⟨trivial, ?_⟩; gi_at_call 80; refine (callsIn_wide.2 HORD.out).mono ?_; rintro e w1 ⟨A1, c1, rfl, hc1, O1, hk1⟩))
  have HO := Lib.hid (show _ ∧ _ from ⟨SeqSt.start O1, hk1⟩)
  clear O1 hcell m2 HORD
  gi_loopw [14] (fun v14 wr => ∃ (k : Nat) (pre : List Came), k ≤ l.length ∧ v14 = .int .i64 k ∧ Hid (prs pre = l.take k) ∧ Hid (SeqSt W.heap.size w1.heap.size k l A1 c1 pre wr) ∧ Hid (J pre wr)) (fun i _ => l.length - (intOf i).toNat)
  case atStart => exact ⟨0, [], Nat.zero_le _, rfl, Lib.hid rfl, HO.out.1, Lib.hid (HJ.out _ _ _ H0.out HO.out.2)⟩
  case round =>
    clear H0 HO
    obtain ⟨k, pre, hk, rfl, hp, hs, hj⟩ := hrel
    by_cases hlt : k < l.length
    · obtain ⟨ad, x, rfl, him, hx, e0, e1, hM, hsp, hnext⟩ := hs.out.at_ hlt
      have kn : Keep No wr (wr.alloc (.cells #[.slice x.A x.k.length x.c, .slice x.B x.v.length x.d] 82)) := (Keep.refl No wr).alloc _
      have hpre : prs (pre ++ [x]) = l.take (k + 1) := by
        rw [List.take_succ_eq_append_getElem hlt, ← hx, ← hp.out]; simp [prs]
      have HP := Lib.hid hpre
      have HN := Lib.hid (fun w2 (hk2 : Keep (fun b => b < W.heap.size ∨ x.sp b) (wr.alloc (.cells #[.slice x.A x.k.length x.c, .slice x.B x.v.length x.d] 82)) w2) => hnext w2 ((kn.mono (fun _ h => h.elim)).trans hk2 (fun _ h => .inl h)))
      obtain ⟨hB, hM, hM2, hM3, hM4, hM5⟩ := hM
      obtain ⟨fn, tmps, assign, body, hy, hR⟩ := HY.out pre x _ (HJ.out _ _ _ hj.out kn) ⟨by rw [hpre]; exact List.take_prefix _ _, Nat.le_trans hsz0 hB, hM.keepGe kn (fun _ _ h => h), hM2, hM3, Nat.le_trans hM4 kn.size, hM5⟩ hsp
      have hab := him.lt
      clear hnext hM hM2 hM3 hM4 hM5 hB hs hj hp hx him kn HY hpre
      dsimp only [Came.enc] at hy
      gi_wp2
      refine hR.mono ?_
      rintro e W3 (⟨rfl, hJ3, hk3⟩ | ⟨rfl, hJx3⟩)
      · have H3 := Lib.hid (show _ ∧ _ from ⟨hJ3, hk3⟩)
        clear hJ3 hk3 hR hy
        gi_wp2
        go_roundw
        case rel => exact ⟨k + 1, pre ++ [x], by omega, by go_num, HP, Lib.hid (HN.out _ H3.out.2), Lib.hid H3.out.1⟩
        case measure => simp [intOf]; omega
      · have H3 := Lib.hid hJx3
        clear hJx3 hR hy
        gi_wp2
        refine bodyPost_ret (results_none rfl _ _ _) rfl ?_
        exact ⟨⟨_, rfl⟩, .inr ⟨pre ++ [x], by rw [HP.out]; exact List.take_prefix _ _, H3.out⟩⟩
    · obtain rfl : k = l.length := by omega
      gi_wp2
      go_end0
      exact ⟨⟨_, rfl⟩, .inl ⟨pre, by rw [hp.out]; exact List.take_length, hj.out⟩⟩
end Go.Proofs.Ytdmckjojeddaaaa
