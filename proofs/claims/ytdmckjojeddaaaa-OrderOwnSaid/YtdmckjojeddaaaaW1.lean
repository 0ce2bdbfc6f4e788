/- Contract of the laws' whole where the map holds just these pairs. Conditions: the number of pairs is bounded. -/
import Derived.Test.YtdmckjojeddaaaaV2
import Derived.Test.YtdmckjojeddaaaaV9
import Derived.Test.YtdmckjojeddaaaaRA
namespace Go.Proofs.Ytdmckjojeddaaaa
open Go.RowKit Go.Proofs.YtdmckjojeddaaaaKit Go.Proofs.YtdmckjojeddaaaaPlain

theorem spanL_whole (l : List Pair) : spanL [] [] false l = l := by
  rw [spanL_all (fun p _ => rfl), List.filter_eq_self]
  intro p _
  have h : ¬ Lt p.1 [] := lt_nil
  unfold Lt at h
  exact decide_eq_true (by omega)
theorem OwnPI.pairs {B base : Nat} {l : List Pair} {A : Option Addr} {n c : Nat} {w : World} (h : OwnPI B l (.slice A n c) w) : Pairs base w A n l := by
  obtain ⟨xs, h1, h2⟩ := h
  obtain ⟨A', c', e, hc⟩ := own_slice h1
  injection e with e1 e2 e3
  subst e1 e2 e3
  exact ⟨xs, Reads.of_own h1 rfl, h2.flat base⟩
theorem imageL_length {seed : Int} {l : PairL} (h : Okay l) : (imageL seed l).length ≤ 4 + 2000 * l.length := by
  have := image_le (nodesL_okay (seed := seed) h) (nodesL seed l).length
  rw [List.take_length, nodesL_length] at this
  rw [imageL, List.length_append, lits_length]
  omega

set_option maxHeartbeats 2000000 in
set_option maxRecDepth 100000 in
theorem whole_any {base : Nat} {w : World} {seed : Int} {mb : Nat} {l : PairL} {F : List Nat} {Lp : Option Addr} {m d : Nat} (h : MSt base w mb seed l F) (hl : Pairs base w Lp m l) (hmd : m ≤ d) (hb : base ≤ w.heap.size) (hsz : l.length ≤ 50000) :
    Calls Try.prog 36 #[.pointer (some ⟨mb, 0, none⟩), .int .u64 seed, .slice Lp m d] w fun e w' => e = .returned (.bool true) ∧ Keep No w w' := by
  have hok := h.okay
  obtain rfl := hl.len (by omega)
  have H1 := Lib.hid (ranged_any (d := d) h hb (by omega) hok.small hl)
  have H2 := Lib.hid (fun W (k : Keep No w W) => len_any (h.new_ k))
  have H3 := Lib.hid (fun W (k : Keep No w W) => mdigest_any (h.new_ k))
  have H4 := Lib.hid (fun W (k : Keep No w W) => rdigest_any (seed := seed) (hl.new_ k) hmd hok hsz (Nat.le_trans hb k.size))
  have H5 := Lib.hid (fun W (k : Keep No w W) => image_any (h.new_ k) (Nat.le_trans hb k.size) (by omega))
  have H6 := Lib.hid (fun W (k : Keep No w W) => rimage_any (seed := seed) (hl.new_ k) hmd hok hsz (Nat.le_trans hb k.size))
  have H7 := Lib.hid (fun W (k : Keep No w W) => (show Calls Try.prog 37 #[.pointer (some ⟨mb, 0, none⟩), .slice none 0 0, .slice none 0 0, .bool false] W (OrdRet W.heap.size W (spanL [] [] false l)) from span_any (h.new_ k) (Nat.le_trans hb k.size) (by omega) Bytes.none_ Bytes.none_))
  rw [spanL_whole] at H7
  have HL := Lib.hid (show _ ∧ _ from ⟨hl, hok⟩)
  have hil := imageL_length (seed := seed) hok
  generalize imageL seed l = im at *
  generalize digest seed l = dg at *
  have hil2 : im.length ≤ 200000000 := by omega
  clear h hl hok hil
  go_enter Try.func36, Try.ntmps36
  go_wp2_with fail
  refine H1.out.mono ?_
  rintro e w1 ⟨rfl, k1⟩
  have K1 := Lib.hid k1
  clear k1 H1
  go_wp2_with (first
    | (go_at_call 27; refine (H2.out _ K1.out).mono ?_; rintro e w' ⟨rfl, rfl⟩)
    | (go_at_call 26; refine (H3.out _ K1.out).mono ?_; rintro e w' ⟨rfl, rfl⟩))
  refine (H4.out _ K1.out).mono ?_
  rintro e w2 ⟨rfl, k2⟩
  have K2 := Lib.hid (K1.out.trans k2 (fun _ x => x.elim))
  clear k2 H4 H3 H2
  go_wp2_with fail
  refine (H5.out _ K2.out).mono ?_
  rintro e w3 ⟨A3, n3, c3, rfl, O3⟩
  have G3 := Lib.hid O3
  have K3 := Lib.hid (K2.out.trans O3.kp (fun _ x => x.elim))
  clear O3 H5
  go_wp2_with fail
  refine (H6.out _ K3.out).mono ?_
  rintro e w4 ⟨A4, n4, c4, rfl, O4⟩
  have G4 := Lib.hid O4
  have K4 := Lib.hid (K3.out.trans O4.kp (fun _ x => x.elim))
  have hn3 := G3.out.num
  have hn4 := O4.num
  subst hn3 hn4
  have HS := same_any (b1 := base) (b2 := base) A3 A4 _ c3 _ c4 im im w4 ((G3.out.new_ O4.kp).bytes) O4.bytes (by omega) (by omega)
  rw [decide_eq_true rfl] at HS
  have HS1 := Lib.hid HS
  clear O4 H6 HS
  go_wp2_with fail
  refine HS1.out.mono ?_
  rintro e w5 ⟨rfl, q, rfl⟩
  have K5 := Lib.hid (K4.out.drewN q)
  clear HS1 G3 G4
  go_wp2_with fail
  refine (H7.out _ K5.out).mono ?_
  rintro e w6 ⟨A6, c6, rfl, hc6, O6, k6⟩
  have K6 := Lib.hid (K5.out.trans k6 (fun _ x => x.elim))
  have HP := Lib.hid (samepairs_any (b1 := base) (b2 := base) A6 Lp _ c6 _ d l w6 O6.pairs (HL.out.1.new_ K6.out) HL.out.2.small (by omega))
  clear O6 k6 H7
  go_wp2_with fail
  refine HP.out.mono ?_
  rintro e w7 ⟨rfl, hd⟩
  have K7 := Lib.hid (Drawn.keep K6.out hd)
  clear hd HP
  go_wp2
  go_ret
  exact ⟨rfl, K7.out⟩
end Go.Proofs.Ytdmckjojeddaaaa
