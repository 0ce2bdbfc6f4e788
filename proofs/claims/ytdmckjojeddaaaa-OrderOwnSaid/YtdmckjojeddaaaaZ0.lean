/- Spans of a list in order, three ways; contract of the reference's Span. Conditions: it names its own. -/
import Derived.Test.YtdmckjojeddaaaaV2
import Derived.Test.YtdmckjojeddaaaaY1
import Derived.Test.YtdmckjojeddaaaaR1
namespace Go.Proofs.Ytdmckjojeddaaaa
open Go.RowKit Go.Proofs.YtdmckjojeddaaaaKit Go.Proofs.YtdmckjojeddaaaaPlain

def hiOf (bd : Bool) (h : List UInt8) : Option (List UInt8) := if bd then some h else none
theorem take_while_sorted {l : PairL} (hs : Sorted l) (h : Option (List UInt8)) : l.takeWhile (fun p => !beyondHi h p.1) = l.filter (fun p => !beyondHi h p.1) := by
  induction l with
  | nil => rfl
  | cons p l ih =>
    obtain ⟨h1, h2⟩ := sorted_cons.1 hs
    rw [List.takeWhile_cons, List.filter_cons]
    cases hb : beyondHi h p.1 with
    | true =>
      symm
      rw [if_neg (by simp), if_neg (by simp), List.filter_eq_nil_iff]
      intro q hq
      rw [beyond_gt hb (h1 q hq)]
      simp
    | false => simp [ih h2]
theorem stop_eq (h : List UInt8) (bd : Bool) (p : Pair) : spanStop h bd p = beyondHi (hiOf bd h) p.1 := by
  unfold spanStop hiOf
  cases bd with
  | false => rfl
  | true =>
    simp only [Bool.true_and, if_true, beyondHi]
    by_cases hl : Lt p.1 h
    · rw [decide_eq_true hl, decide_eq_false (by unfold Lt at hl; omega)]; rfl
    · rw [decide_eq_false hl, decide_eq_true (by unfold Lt at hl; omega)]; rfl
theorem take_eq (f : List UInt8) (p : Pair) : spanTake f p = !belowLo (some f) p.1 := by
  unfold spanTake belowLo
  by_cases hl : Lt p.1 f
  · simp only [decide_eq_true hl]
    rw [decide_eq_false (by unfold Lt at hl; omega)]; rfl
  · simp only [decide_eq_false hl]
    rw [decide_eq_true (by unfold Lt at hl; omega)]; rfl
theorem span_pairs {l : PairL} (hs : Sorted l) (f h : List UInt8) (bd : Bool) : spanL f h bd l = spanPairs f (hiOf bd h) l := by
  unfold spanL spanPairs
  have e1 : (fun p : Pair => !spanStop h bd p) = fun p => !beyondHi (hiOf bd h) p.1 := funext fun p => by rw [stop_eq]
  have e2 : spanTake f = fun p : Pair => !belowLo (some f) p.1 := funext fun p => take_eq f p
  rw [e1, e2, take_while_sorted hs, List.filter_filter]
  rfl
theorem rank_take (k : List UInt8) (l : PairL) (n : Nat) : rank k (l.take n) = min (rank k l) n := by
  induction l generalizing n with
  | nil => simp [rank]
  | cons p l ih =>
    cases n with
    | zero => simp [rank]
    | succ n =>
      rw [List.take_succ_cons, rank, rank]
      split
      · rw [ih]; omega
      · omega
theorem take_rank {l : PairL} (hs : Sorted l) (k : List UInt8) : l.take (rank k l) = l.filter (fun p => decide (Lt p.1 k)) := by
  induction l with
  | nil => rfl
  | cons p l ih =>
    obtain ⟨h1, h2⟩ := sorted_cons.1 hs
    rw [rank, List.filter_cons]
    split
    · rename_i hl
      rw [if_pos (decide_eq_true hl), List.take_succ_cons, ih h2]
    · rename_i hl
      rw [if_neg (by simpa using hl), List.take_zero]
      symm
      rw [List.filter_eq_nil_iff]
      intro q hq
      simp
      exact fun h => hl (lt_trans (h1 q hq) h)
theorem drop_rank {l : PairL} (hs : Sorted l) (k : List UInt8) : l.drop (rank k l) = l.filter (fun p => !decide (Lt p.1 k)) := by
  induction l with
  | nil => rfl
  | cons p l ih =>
    obtain ⟨h1, h2⟩ := sorted_cons.1 hs
    rw [rank, List.filter_cons]
    split
    · rename_i hl
      rw [if_neg (by simp [hl]), List.drop_succ_cons, ih h2]
    · rename_i hl
      rw [if_pos (by simpa using hl), List.drop_zero]
      congr 1
      symm
      rw [List.filter_eq_self]
      intro q hq
      simp
      exact fun h => hl (lt_trans (h1 q hq) h)
theorem rspan_pairs {l : PairL} (hs : Sorted l) (f h : List UInt8) (bd : Bool) : YtdmckjojeddaaaaPlain.spanL l f h bd = spanPairs f (hiOf bd h) l := by
  unfold YtdmckjojeddaaaaPlain.spanL spanPairs
  have key : ∀ n, (l.take n).drop (rank f l) = (l.take n).filter (fun p => !belowLo (some f) p.1) := fun n => by
    have e := drop_rank (sorted_take hs n) f
    rw [rank_take] at e
    rw [show (fun p : List UInt8 × List UInt8 => !belowLo (some f) p.1) = fun p => !decide (Lt p.1 f) from rfl, ← e]
    rcases Nat.le_total (rank f l) n with h1 | h1
    · rw [Nat.min_eq_left h1]
    · rw [Nat.min_eq_right h1, List.drop_of_length_le (by rw [List.length_take]; omega), List.drop_of_length_le (by rw [List.length_take]; omega)]
  cases bd with
  | false =>
    simp only [hiOf, Bool.false_eq_true, if_false]
    rw [key, List.take_length]
    congr 1
    funext p
    simp [inSpan, beyondHi]
  | true =>
    simp only [hiOf, if_true]
    rw [key, take_rank hs, List.filter_filter]
    congr 1
    funext p
    simp [inSpan, beyondHi, belowLo]

theorem slice_lh (W : World) (L : Option Addr) (n d f t : Nat) (h1 : f ≤ t) (h2 : t ≤ d) : (Instr.sliceAt 35 (.slice L n d) (some (.int .i64 (f : Int))) (some (.int .i64 (t : Int))) none).run Try.prog W = .ok (.slice (if d = f then L else L.map (·.add (f * 2))) (t - f) (d - f)) W := by
  rw [run_sliceAt_slice (t := 35) (h := by kernel_rfl)]
  have := run_slice_lh (P := Try.prog) (w := W) 35 L n d (by kernel_rfl) .i64 .i64 (f : Int) (t : Int) (by omega) (by omega) (by omega)
  rw [this]
  have e : Try.prog.elem 35 = 82 := by kernel_rfl
  rw [e, Try.sizeOf82]
  simp [Result.andThen, sliced]
theorem wp_slice_lh {P : Program} {o : Oper} {a : Act} {w : World} {K : Act → World → Prop} {Q : Exit → Act → World → Prop} (t : TypeId) (x lo hi : Operand) (ho : o.op = .slice t x (some lo) (some hi) none) {v : Value}
    (hrun : (Instr.sliceAt t (a.eval x) (some (a.eval lo)) (some (a.eval hi)) none).run P w = .ok v w) (h : K (a.put o.dst v) w) : o.wp P a w K Q := by
  unfold Oper.wp execOp
  simp only [ho, Option.map_some, Option.map_none, Sem.run_bind, hrun, Result.andThen_ok, Sem.run_pure]
  exact h
theorem wpList_slice_lh {P : Program} {ops : Array Oper} {rest : List Oper} {o : Oper} {a : Act} {w : World} {Q : Exit → Act → World → Prop} (hgd : o.guard = none) (t : TypeId) (x lo hi : Operand) (ho : o.op = .slice t x (some lo) (some hi) none) {v : Value}
    (hrun : (Instr.sliceAt t (a.eval x) (some (a.eval lo)) (some (a.eval hi)) none).run P w = .ok v w) (h : wpList P ops Q rest (a.put o.dst v) w) : wpList P ops Q (o :: rest) a w :=
  wpList_plain hgd fun _ hK => wp_slice_lh t x lo hi ho hrun (hK _ _ h)
/-- What the reference's Span hands back: a part of the list that came. -/
def RSpanRet (base : Nat) (w : World) (k : PairL) (e : Ending) (w' : World) : Prop := ∃ A c, e = .returned (.slice A k.length c) ∧ k.length ≤ c ∧ Pairs base w' A k.length k ∧ Drawn w w'
theorem rspan_fin {base : Nat} {w w' : World} {k : PairL} {A : Option Addr} {n c : Nat} (hn : n = k.length) (hc : n ≤ c) (hp : Pairs base w' A n k) (hd : Drawn w w') : RSpanRet base w k (.returned (.slice A n c)) w' := by
  subst hn
  exact ⟨A, c, rfl, hc, hp, hd⟩
set_option maxHeartbeats 2000000 in
set_option maxRecDepth 100000 in
theorem rspan_any {base : Nat} (L A B : Option Addr) (m d n c n2 c2 : Nat) (l : List Pair) (low high : List UInt8) (bd : Bool) (w : World) (hl : Pairs base w L m l) (hmd : m ≤ d) (h1 : Bytes base w A n low) (h2 : Bytes base w B n2 high) (hs : Small l) (hn : n ≤ 1000000) (hn2 : n2 ≤ 1000000) (hm : m ≤ 1000000) :
    Calls Try.prog 39 #[.slice L m d, .slice A n c, .slice B n2 c2, .bool bd] w (RSpanRet base w (YtdmckjojeddaaaaPlain.spanL l low high bd)) := by
  obtain rfl := hl.len (by omega)
  have HR1 := Lib.hid (rrank_any L A l.length d n c l low w hl h1 hs hn hm)
  have HR2 := Lib.hid (fun q => rrank_any L B l.length d n2 c2 l high (w.drewN q) (hl.new_ ((Keep.refl No w).drewN q)) (h2.drewN q) hs hn2 hm)
  have hf := rank_le low l
  have ht := rank_le high l
  have HL := Lib.hid hl
  obtain ⟨k, hk⟩ : ∃ k, k = YtdmckjojeddaaaaPlain.spanL l low high bd := ⟨_, rfl⟩
  rw [← hk]
  have HK := Lib.hid hk
  unfold YtdmckjojeddaaaaPlain.spanL at HK
  clear hl h1 h2 hk
  generalize rank low l = f at *
  generalize rank high l = t at *
  cases bd with
  | false =>
    have hk2 : k = l.drop f := by have := HK.out; simpa using this
    have hp := fun q => pairs_cut (k := f) (HL.out.new_ ((Keep.refl No w).drewN q)) hf hmd rfl
    have f0 : (0 : Int) ≤ (f : Int) := by omega
    have f1 : (f : Int) ≤ (l.length : Int) := by omega
    have f2 : (l.length : Int) ≤ (d : Int) := by omega
    go_enter Try.func39, Try.ntmps39
    go_wp2_with fail
    refine HR1.out.mono ?_
    rintro e w' ⟨rfl, q, rfl⟩
    have HP := Lib.hid (show Pairs base (w.drewN q) (if d = f then L else L.map (·.add (f * 2))) (l.length - f) (l.drop f) from (hp q).2)
    clear hp HR1 HR2
    go_wp2
    · rename_i h
      go_ret
      have := HP.out
      rw [if_pos h] at this
      exact rspan_fin (by rw [List.length_drop]) (by omega) this ⟨q, rfl⟩
    · rename_i h
      go_ret
      have := HP.out
      rw [if_neg h] at this
      exact rspan_fin (by rw [List.length_drop]) (by omega) this ⟨q, rfl⟩
  | true =>
    have hk2 : k = (l.take t).drop f := by have := HK.out; simpa using this
    have hp := fun q => pairs_cut (k := t) (HL.out.new_ ((Keep.refl No w).drewN q)) ht hmd rfl
    have f0 : (0 : Int) ≤ (f : Int) := by omega
    have t0 : (0 : Int) ≤ (t : Int) := by omega
    have t1 : (t : Int) ≤ (l.length : Int) := by omega
    have f2 : (l.length : Int) ≤ (d : Int) := by omega
    by_cases hlt : t < f
    · have q0 : decide ((t : Int) < (f : Int)) = true := decide_eq_true (by omega)
      have hnil : k = [] := by rw [hk2]; exact List.drop_of_length_le (by rw [List.length_take]; omega)
      clear hp
      go_enter Try.func39, Try.ntmps39
      go_wp2_with fail
      refine HR1.out.mono ?_
      rintro e w' ⟨rfl, q, rfl⟩
      go_wp2_with fail
      refine (HR2.out q).mono ?_
      rintro e w' ⟨rfl, q2, rfl⟩
      go_wp2
      go_ret
      rw [hnil]
      exact ⟨none, 0, rfl, Nat.le_refl _, ⟨[], Reads.none_, Flat.nil⟩, q + q2, rfl⟩
    · have q0 : decide ((t : Int) < (f : Int)) = false := decide_eq_false (by omega)
      have f1 : (f : Int) ≤ (t : Int) := by omega
      have t2 : (t : Int) ≤ (d : Int) := by omega
      have hp2 : ∀ q q2, Pairs base ((w.drewN q).drewN q2) (if d = f then L else L.map (·.add (f * 2))) (t - f) ((l.take t).drop f) := fun q q2 => by
        have hpt : Pairs base (w.drewN q) L t (l.take t) := (hp q).1
        have hlt2 : (l.take t).length = t := by rw [List.length_take]; omega
        have := (pairs_cut (d := d) (k := f) (hpt.new_ ((Keep.refl No _).drewN q2)) (by omega) (by omega) hlt2.symm).2
        rw [hlt2] at this
        exact this
      have hkl : t - f = ((l.take t).drop f).length := by rw [List.length_drop, List.length_take]; omega
      obtain ⟨A', hA'⟩ : ∃ A', A' = (if d = f then L else L.map (·.add (f * 2))) := ⟨_, rfl⟩
      have hsl := fun W => slice_lh W L l.length d f t (by omega) (by omega)
      rw [← hA'] at hp2 hsl
      have HP := Lib.hid hp2
      clear hp hp2 hA'
      go_enter Try.func39, Try.ntmps39
      go_wp2_with fail
      refine HR1.out.mono ?_
      rintro e w' ⟨rfl, q, rfl⟩
      go_wp2_with fail
      refine (HR2.out q).mono ?_
      rintro e w' ⟨rfl, q2, rfl⟩
      clear HR1 HR2
      go_wp2
      refine wp_slice_lh _ _ _ _ rfl (hsl _) ?_
      simp only [Act.put, List.setIfInBounds_toArray, List.set_cons_zero, List.set_cons_succ]
      go_wp2
      go_ret
      have := HP.out q q2
      rw [World.drewN_drewN] at this
      rw [hk2]
      exact rspan_fin hkl (by omega) this ⟨q + q2, rfl⟩
end Go.Proofs.Ytdmckjojeddaaaa
