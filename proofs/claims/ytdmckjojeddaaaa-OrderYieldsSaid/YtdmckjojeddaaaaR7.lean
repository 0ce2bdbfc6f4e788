/- Contracts of the reference's Nodes, Digest. Conditions: the lengths are bounded. -/
import Derived.Test.YtdmckjojeddaaaaR6
namespace Go.Proofs.Ytdmckjojeddaaaa
open Go.RowKit Go.Proofs.YtdmckjojeddaaaaKit Go.Proofs.YtdmckjojeddaaaaPlain

theorem grow_all {base B : Nat} (seed : Int) (hbB : base ≤ B) : ∀ N, GrowAll base B seed N := by
  intro N
  induction N with
  | zero => intro l' h; exact absurd h (Nat.not_lt_zero _)
  | succ N ih =>
    intro l' hl w Lp m d L v hp hmd hok ho hB hsz
    by_cases hne : l' = []
    · subst hne
      exact grow_nil hp ho
    · exact grow_cons (fun l2 h2 => ih l2 (by omega)) hp hmd hok ho hbB hB hsz hne

set_option maxHeartbeats 1000000 in
set_option maxRecDepth 100000 in
theorem rnodes_any {base : Nat} {w : World} {seed : Int} {Lp : Option Addr} {m d : Nat} {l : PairL} (hl : Pairs base w Lp m l) (hmd : m ≤ d) (hok : Okay l) (hsz : l.length ≤ 50000) (hb : base ≤ w.heap.size) :
    Calls Try.prog 33 #[.int .u64 seed, .slice Lp m d] w (RecsRet (NodeR base) 44 6 w (nodesL seed l)) := by
  have hG : Calls Try.prog 72 #[.slice none 0 0, .int .u64 seed, .slice Lp m d] w (RecsRet (NodeR base) 44 6 w (nodesL seed l)) :=
    (grow_all (base := base) seed hb (l.length + 1) l (by omega) w Lp m d [] (.slice none 0 0) hl hmd hok OwnR.start (Nat.le_refl _) (by simp; omega)).mono (fun e w' h => by
      obtain ⟨A, c, e1, ho, hk, _⟩ := h
      obtain ⟨_, _, _, e2, _, hc⟩ := ho.shape
      injection e2 with _ e2 e3
      exact ⟨A, c, e1, by rw [← e2, ← e3] at hc; exact hc, ho, hk.mono (fun _ e => by cases e)⟩)
  have HG := Lib.hid hG
  clear hl hok hG
  generalize nodesL seed l = N at *
  go_enter Try.func33, Try.ntmps33
  go_wp2_with fail
  refine HG.out.mono ?_
  rintro e w' ⟨A, c, rfl, hc, ho, hk⟩
  have HO := Lib.hid (show _ ∧ _ from ⟨ho, hk⟩)
  clear ho hk HG
  go_wp2
  go_ret
  exact ⟨A, c, rfl, hc, HO.out.1, HO.out.2⟩

set_option maxHeartbeats 1000000 in
set_option maxRecDepth 100000 in
theorem rdigest_any {base : Nat} {w : World} {seed : Int} {Lp : Option Addr} {m d : Nat} {l : PairL} (hl : Pairs base w Lp m l) (hmd : m ≤ d) (hok : Okay l) (hsz : l.length ≤ 50000) (hb : base ≤ w.heap.size) :
    Calls Try.prog 77 #[.int .u64 seed, .slice Lp m d] w fun e w' => e = .returned (.int .u64 (digest seed l)) ∧ Keep No w w' := by
  have HN := Lib.hid (rnodes_any (seed := seed) hl hmd hok hsz hb)
  have hlen := nodesL_length seed l
  have HD := Lib.hid (fun x (h : (nodesL seed l)[0]? = some x) => (size_head h).2)
  have h00 : l = [] → digest seed l = 0 := by rintro rfl; rfl
  by_cases h0 : l = []
  · have hd := Lib.hid (h00 h0)
    subst h0
    clear hl hok h00 hlen HD
    go_enter Try.func77, Try.ntmps77
    go_wp2_with fail
    refine HN.out.mono ?_
    rintro e w' ⟨A, c, rfl, hc, ho, hk⟩
    have HK := Lib.hid hk
    have e0 : (nodesL seed []).length = 0 := nodesL_length seed []
    rw [e0]
    clear ho hk e0
    go_wp2
    go_ret
    rw [hd.out]
    exact ⟨rfl, HK.out⟩
  · have hpos : 0 < l.length := List.length_pos_iff.2 h0
    obtain ⟨x, hx⟩ : ∃ x, (nodesL seed l)[0]? = some x := ⟨_, List.getElem?_eq_getElem (by rw [hlen]; exact hpos)⟩
    have hd := HD.out x hx
    rw [hd]
    rw [← hlen] at hpos
    generalize nodesL seed l = N at *
    have HX := Lib.hid hx
    clear hl hok h00 hlen HD hd hx h0
    go_enter Try.func77, Try.ntmps77
    go_wp2_with fail
    refine HN.out.mono ?_
    rintro e w' ⟨A, c, rfl, hc, ho, hk⟩
    obtain ⟨ad, A1, c1, A2, c2, rfl, him, e0, e1, e2, e3, e4, e5, b1, b2⟩ := NodesAt.at_ (base := base) (OwnR.recs ho rfl) HX.out
    rw [show ad.add (0 * 6) = ad from by simp [Addr.add]] at e2
    have HK := Lib.hid hk
    have q0 : (((N.length : Nat) : Int) == 0) = false := beq_eq_false_iff_ne.2 (by omega)
    clear ho hk him e0 e1 e3 e4 e5 b1 b2 hc
    generalize N.length = n at *
    go_wp2
    go_ret
    exact ⟨rfl, HK.out⟩
end Go.Proofs.Ytdmckjojeddaaaa
