/- Contracts of order's Nodes, Len, Digest. Conditions: each names its own. -/
import Derived.Test.YtdmckjojeddaaaaU3
namespace Go.Proofs.Ytdmckjojeddaaaa
open Go.RowKit Go.Proofs.YtdmckjojeddaaaaKit Go.Proofs.YtdmckjojeddaaaaPlain

/-- A list of records of the call's own comes back. -/
def RecsRet {α : Type} (R : World → α → List Value → Prop) (e size : Nat) (w : World) (l : List α) (en : Ending) (w' : World) : Prop :=
  ∃ A c, en = .returned (.slice A l.length c) ∧ l.length ≤ c ∧ OwnR R e size w.heap.size l (.slice A l.length c) w' ∧ Keep No w w'

set_option maxHeartbeats 1000000 in
set_option maxRecDepth 100000 in
theorem nodes_any {base : Nat} {w : World} {seed : Int} {mb : Nat} {l : PairL} {F : List Nat} (h : MSt base w mb seed l F) (hb : base ≤ w.heap.size) (hsz : l.length ≤ 900000) :
    Calls Try.prog 22 #[.pointer (some ⟨mb, 0, none⟩)] w (RecsRet (NodeR base) 44 6 w (nodesL seed l)) := by
  obtain ⟨t, hO, hwf, rfl, rfl⟩ := h
  rw [toList_length] at hsz
  have HR := Lib.hid (real_any hO.has)
  obtain ⟨_, _, m2⟩ := hO.has.cells
  have hml := hO.has.2.lt
  have k1 : Keep No w (w.alloc (.cells #[.int .i64 (-1)] 3)) := (Keep.refl _ _).alloc _
  have B1 : Blk (w.alloc (.cells #[.int .i64 (-1)] 3)) w.heap.size 3 #[.int .i64 (-1)] := Blk.new _ _ _
  have hG := gatherN_any (seed := seed) hb B1 t (hO.rep.new_ k1) _ (-1) 0 [] (.slice none 0 0) (Keep.refl _ _) B1 (Lib.hid rfl) OwnR.start (by simp; omega) (by omega)
  have hE : [] ++ t.shape.nodes seed 0 = nodesL seed t.toList := by rw [List.nil_append, nodesL, shape_build hwf]
  rw [hE] at hG
  have HG := Lib.hid hG
  generalize nodesL seed t.toList = L at *
  clear hG hO hE hwf
  go_enter Try.func22, Try.ntmps22
  go_wp2_with (first
    | (go_at_call 64; refine HR.out.mono ?_; rintro e w' ⟨rfl, rfl⟩)
    | (go_at_call 65; refine HG.out.mono ?_; rintro e w2 ⟨A, c, a, rfl, hc, ho, hk, hb2, hi⟩))
  go_ret
  refine ⟨A, c, rfl, hc, ho.weak (by simp), ?_⟩
  exact k1.trans hk (fun x e => .inr (by rw [show x = w.heap.size from e]; exact Nat.le_refl _))

section
variable {base : Nat} {w : World} {seed : Int} {mb : Nat} {l : PairL} {F : List Nat}
set_option maxHeartbeats 400000 in
theorem len_any (h : MSt base w mb seed l F) : Calls Try.prog 27 #[.pointer (some ⟨mb, 0, none⟩)] w fun e w' => e = .returned (.int .i64 (l.length : Nat)) ∧ w = w' := by
  obtain ⟨t, hO, _, rfl, rfl⟩ := h
  rw [toList_length]
  have HR := Lib.hid (real_any hO.has)
  have HC := Lib.hid (count_any hO.rep)
  obtain ⟨_, _, m2⟩ := hO.has.cells
  clear hO
  go_enter Try.func27, Try.ntmps27
  go_wp2_with (first
    | (go_at_call 64; refine HR.out.mono ?_; rintro e w' ⟨rfl, rfl⟩)
    | (go_at_call 68; refine HC.out.mono ?_; rintro e w' ⟨rfl, rfl⟩))
  go_ret
  exact ⟨rfl, rfl⟩
set_option maxHeartbeats 400000 in
theorem mdigest_any (h : MSt base w mb seed l F) : Calls Try.prog 26 #[.pointer (some ⟨mb, 0, none⟩)] w fun e w' => e = .returned (.int .u64 (digest seed l)) ∧ w = w' := by
  obtain ⟨t, hO, hwf, rfl, rfl⟩ := h
  rw [← digest_eq hwf]
  have HR := Lib.hid (real_any hO.has)
  have HC := Lib.hid (sum_any hO.rep)
  obtain ⟨_, _, m2⟩ := hO.has.cells
  clear hO hwf
  go_enter Try.func26, Try.ntmps26
  go_wp2_with (first
    | (go_at_call 64; refine HR.out.mono ?_; rintro e w' ⟨rfl, rfl⟩)
    | (go_at_call 70; refine HC.out.mono ?_; rintro e w' ⟨rfl, rfl⟩))
  go_ret
  exact ⟨rfl, rfl⟩
end
end Go.Proofs.Ytdmckjojeddaaaa
