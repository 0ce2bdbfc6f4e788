/- Contracts of order's functions at a map that there is not: nil, and one that no function has returned. Conditions: each names its own. -/
import Derived.Test.YtdmckjojeddaaaaV2
import Derived.Test.YtdmckjojeddaaaaD1
import Derived.BigQuiet
import Derived.LaidEqlPtr
namespace Go.Proofs.Ytdmckjojeddaaaa
open Go.RowKit Go.Proofs.YtdmckjojeddaaaaKit Go.Proofs.YtdmckjojeddaaaaPlain
attribute [local go_sem] Oper.semAt_some

def Void (w : World) (v : Option Addr) : Prop := v = none ∨ ∃ mb, v = some ⟨mb, 0, none⟩ ∧ Blk w mb 106 #[.bool false, .int .u64 0, .pointer none]
section
variable {w w1 : World} {v : Option Addr}
theorem Void.new_ (h : Void w v) (hk : Keep No w w1) : Void w1 v := by
  rcases h with h | ⟨mb, h1, h2⟩
  · exact .inl h
  · exact .inr ⟨mb, h1, h2.keep hk (fun x => x)⟩
theorem Void.keep {S : Nat → Prop} (h : Void w v) (hk : Keep S w w1) (hn : ∀ mb, v = some ⟨mb, 0, none⟩ → ¬ S mb) : Void w1 v := by
  rcases h with h | ⟨mb, h1, h2⟩
  · exact .inl h
  · exact .inr ⟨mb, h1, h2.keep hk (hn mb h1)⟩
theorem results_cell_row_tmp {P : Program} {fn : Func} {p u : Tmp} {ty : TypeId} (h : fn.results = #[.cell p ty, .tmp u]) (tmps : Array Value) (w : World) (g : Nat) (t : TypeId) (cs : Array Value) (fr : Nat × Nat) (d : TypeDesc)
    (hp : tmps.getD p undef = .pointer (some ⟨g, 0, none⟩)) (hg : w.heap[g]? = some (.cells cs t fr))
    (hu : P.underlying ty = some d) (hd : (match d with | .struct _ | .array _ _ => true | _ => false) = true) (hi : (P.info? ty).map (·.size) = some cs.size) :
    (results fn tmps).run P w = .ok (.tuple #[.agg cs, tmps.getD u undef]) w := by
  have hp' : tmps[p]?.getD undef = .pointer (some ⟨g, 0, none⟩) := by simpa using hp
  simp [results, h, hp', asAddr, run_loadVar_row w g t ty cs fr d hg hu hd hi]
def Same (e0 : Ending) (w : World) (e : Ending) (w' : World) : Prop := e = e0 ∧ w = w'

set_option maxHeartbeats 400000 in
theorem real_void (h : Void w v) : Calls Try.prog 64 #[.pointer v] w (Same (.returned (.bool false)) w) := by
  rcases h with rfl | ⟨mb, rfl, hb⟩
  · go_enter Try.func64, Try.ntmps64
    go_wp2
    go_ret
    exact ⟨rfl, rfl⟩
  · have m0 := hb.cell 0
    simp only [List.getElem?_toArray, List.getElem?_cons_zero] at m0
    clear hb
    go_enter Try.func64, Try.ntmps64
    go_wp2
    go_ret
    exact ⟨rfl, rfl⟩
set_option maxHeartbeats 400000 in
theorem find_void (h : Void w v) (A : Option Addr) (n c : Nat) : Calls Try.prog 82 #[.pointer v, .slice A n c] w (Same (.returned (.pointer none)) w) := by
  have HR := Lib.hid (real_void h)
  clear h
  go_enter Try.func82, Try.ntmps82
  go_wp2_with (go_at_call 64; refine HR.out.mono ?_; rintro e w' ⟨rfl, rfl⟩)
  go_ret
  exact ⟨rfl, rfl⟩
set_option maxHeartbeats 400000 in
theorem get_void (h : Void w v) (A : Option Addr) (n c : Nat) : Calls Try.prog 55 #[.pointer v, .slice A n c] w (Same (.returned (.tuple #[.slice none 0 0, .int .i64 3])) w) := by
  have HR := Lib.hid (find_void h A n c)
  clear h
  go_enter Try.func55, Try.ntmps55
  go_wp2_with (go_at_call 82; refine HR.out.mono ?_; rintro e w' ⟨rfl, rfl⟩)
  go_ret2
  exact ⟨rfl, rfl⟩
set_option maxHeartbeats 400000 in
theorem len_void (h : Void w v) : Calls Try.prog 27 #[.pointer v] w (Same (.returned (.int .i64 0)) w) := by
  have HR := Lib.hid (real_void h)
  clear h
  go_enter Try.func27, Try.ntmps27
  go_wp2_with (go_at_call 64; refine HR.out.mono ?_; rintro e w' ⟨rfl, rfl⟩)
  go_ret
  exact ⟨rfl, rfl⟩
set_option maxHeartbeats 400000 in
theorem digest_void (h : Void w v) : Calls Try.prog 26 #[.pointer v] w (Same (.returned (.int .u64 0)) w) := by
  have HR := Lib.hid (real_void h)
  clear h
  go_enter Try.func26, Try.ntmps26
  go_wp2_with (go_at_call 64; refine HR.out.mono ?_; rintro e w' ⟨rfl, rfl⟩)
  go_ret
  exact ⟨rfl, rfl⟩
set_option maxHeartbeats 400000 in
theorem image_void (h : Void w v) : Calls Try.prog 52 #[.pointer v] w (Same (.returned (.slice none 0 0)) w) := by
  have HR := Lib.hid (real_void h)
  clear h
  go_enter Try.func52, Try.ntmps52
  go_wp2_with (go_at_call 64; refine HR.out.mono ?_; rintro e w' ⟨rfl, rfl⟩)
  go_ret
  exact ⟨rfl, rfl⟩
set_option maxHeartbeats 400000 in
theorem nodes_void (h : Void w v) : Calls Try.prog 22 #[.pointer v] w (Same (.returned (.slice none 0 0)) w) := by
  have HR := Lib.hid (real_void h)
  clear h
  go_enter Try.func22, Try.ntmps22
  go_wp2_with (go_at_call 64; refine HR.out.mono ?_; rintro e w' ⟨rfl, rfl⟩)
  go_ret
  exact ⟨rfl, rfl⟩
set_option maxHeartbeats 400000 in
theorem prove_void (h : Void w v) (A : Option Addr) (n c : Nat) : Calls Try.prog 28 #[.pointer v, .slice A n c] w (Same (.returned (.slice none 0 0)) w) := by
  have HR := Lib.hid (real_void h)
  clear h
  go_enter Try.func28, Try.ntmps28
  go_wp2_with (go_at_call 64; refine HR.out.mono ?_; rintro e w' ⟨rfl, rfl⟩)
  go_ret
  exact ⟨rfl, rfl⟩
set_option maxHeartbeats 400000 in
theorem rank_void (h : Void w v) (A : Option Addr) (n c : Nat) : Calls Try.prog 58 #[.pointer v, .slice A n c] w (Same (.returned (.int .i64 0)) w) := by
  have HR := Lib.hid (real_void h)
  clear h
  go_enter Try.func58, Try.ntmps58
  go_wp2_with (go_at_call 64; refine HR.out.mono ?_; rintro e w' ⟨rfl, rfl⟩)
  go_ret
  exact ⟨rfl, rfl⟩
set_option maxHeartbeats 400000 in
theorem drop_void (h : Void w v) (A : Option Addr) (n c : Nat) : Calls Try.prog 44 #[.pointer v, .slice A n c] w (Same (.returned (.int .i64 1)) w) := by
  have HR := Lib.hid (real_void h)
  clear h
  go_enter Try.func44, Try.ntmps44
  go_wp2_with (go_at_call 64; refine HR.out.mono ?_; rintro e w' ⟨rfl, rfl⟩)
  go_ret
  exact ⟨rfl, rfl⟩
set_option maxHeartbeats 400000 in
theorem put_void (h : Void w v) (A B : Option Addr) (n c m d : Nat) : Calls Try.prog 43 #[.pointer v, .slice A n c, .slice B m d] w (Same (.returned (.int .i64 1)) w) := by
  have HR := Lib.hid (real_void h)
  clear h
  go_enter Try.func43, Try.ntmps43
  go_wp2_with (go_at_call 64; refine HR.out.mono ?_; rintro e w' ⟨rfl, rfl⟩)
  go_ret
  exact ⟨rfl, rfl⟩
set_option maxHeartbeats 400000 in
theorem spanDigest_void (h : Void w v) (A B : Option Addr) (n c m d : Nat) (bd : Bool) : Calls Try.prog 38 #[.pointer v, .slice A n c, .slice B m d, .bool bd] w (Same (.returned (.tuple #[.int .i64 0, .int .u64 0])) w) := by
  have HR := Lib.hid (real_void h)
  clear h
  go_enter Try.func38, Try.ntmps38
  go_wp2_with (go_at_call 64; refine HR.out.mono ?_; rintro e w' ⟨rfl, rfl⟩)
  go_ret2
  exact ⟨rfl, rfl⟩
set_option maxHeartbeats 400000 in
theorem cut_void (h : Void w v) (A : Option Addr) (n c : Nat) : Calls Try.prog 48 #[.pointer v, .slice A n c] w (Same (.returned (.tuple #[.pointer none, .pointer none])) w) := by
  have HR := Lib.hid (real_void h)
  clear h
  go_enter Try.func48, Try.ntmps48
  go_wp2_with (go_at_call 64; refine HR.out.mono ?_; rintro e w' ⟨rfl, rfl⟩)
  go_ret2
  exact ⟨rfl, rfl⟩
set_option maxHeartbeats 1000000 in
theorem at_void (h : Void w v) (i : Int) : Calls Try.prog 56 #[.pointer v, .int .i64 i] w fun e w' => e = .returned (.tuple #[.agg #[.slice none 0 0, .slice none 0 0], .int .i64 3]) ∧ Keep No w w' := by
  have HR := Lib.hid (len_void (h.new_ ((Keep.refl No w).alloc (.cells #[.slice none 0 0, .slice none 0 0] 82))))
  clear h
  by_cases hi : i < 0
  · have q : decide (i < 0) = true := decide_eq_true hi
    go_enter Try.func56, Try.ntmps56
    go_wp2_with fail
    exact bodyPost_ret (results_cell_row_tmp rfl _ _ w.heap.size 82 #[.slice none 0 0, .slice none 0 0] (0, 0) _ rfl (Blk.new _ _ _) Try.underlying82 rfl info_size_pair) rfl ⟨rfl, (Keep.refl No w).alloc _⟩
  · have q : decide (i < 0) = false := decide_eq_false hi
    have q2 : decide (0 ≤ i) = true := decide_eq_true (by omega)
    go_enter Try.func56, Try.ntmps56
    go_wp2_with (go_at_call 27; refine HR.out.mono ?_; rintro e w' ⟨rfl, rfl⟩)
    exact bodyPost_ret (results_cell_row_tmp rfl _ _ w.heap.size 82 #[.slice none 0 0, .slice none 0 0] (0, 0) _ rfl (Blk.new _ _ _) Try.underlying82 rfl info_size_pair) rfl ⟨rfl, (Keep.refl No w).alloc _⟩
end

/-! ### Kin and Join -/
theorem info_map0 : (Try.prog.info? 106).map (·.size) = some 3 := by kernel_rfl
theorem info_map : ∃ j, Try.prog.info? 106 = some j ∧ j.size ≠ 0 := by
  obtain ⟨j, h1, h2⟩ := Option.map_eq_some_iff.1 info_map0
  exact ⟨j, h1, by rw [h2]; decide⟩
theorem real_void_q {w : World} {v : Option Addr} (h : Void w v) (q : Nat) : Calls Try.prog 64 #[.pointer v] (w.drewN q) fun e w'' => e = .returned (.bool false) ∧ ∃ m, w'' = w.drewN m :=
  (real_void (h.new_ ((Keep.refl No w).drewN q))).mono (fun _ _ h => ⟨h.1, _, h.2.symm⟩)
theorem real_q {base : Nat} {w : World} {mb : Nat} {seed : Int} {root : Option Addr} (h : MapHas base w mb seed root) (q : Nat) : Calls Try.prog 64 #[.pointer (some ⟨mb, 0, none⟩)] (w.drewN q) fun e w'' => e = .returned (.bool true) ∧ ∃ m, w'' = w.drewN m :=
  (real_any (h.keep ((Keep.refl No w).drewN q) (fun x => x))).mono (fun _ _ h => ⟨h.1, _, h.2.symm⟩)
set_option maxHeartbeats 1000000 in
set_option maxRecDepth 100000 in
theorem kin_void_l {w : World} {v u : Option Addr} (h : Void w v) : Calls Try.prog 50 #[.pointer v, .pointer u] w fun e w' => e = .returned (.bool false) ∧ Drawn w w' := by
  have HR := Lib.hid (real_void_q h)
  clear h
  go_enter Try.func50, Try.ntmps50
  go_wp2_with fail
  go_quiet ((go_at_call 64; exact HR.out _))
  go_wp2
  go_ret
  exact ⟨rfl, _, rfl⟩
set_option maxHeartbeats 1000000 in
set_option maxRecDepth 100000 in
theorem kin_void_r {base : Nat} {w : World} {v : Option Addr} {mb : Nat} {seed : Int} {root : Option Addr} (hm : MapHas base w mb seed root) (h : Void w v) (hne : v ≠ some ⟨mb, 0, none⟩) : Calls Try.prog 50 #[.pointer (some ⟨mb, 0, none⟩), .pointer v] w fun e w' => e = .returned (.bool false) ∧ Drawn w w' := by
  have _hne := hne
  have HR := Lib.hid (real_void_q h)
  have HM := Lib.hid (real_q hm)
  clear h hm
  go_enter Try.func50, Try.ntmps50
  go_wp2_with fail
  go_quiet ((first
    | (go_at_call_of 64 (Value.pointer (some ⟨mb, 0, none⟩)); exact HM.out _)
    | (go_at_call 64; exact HR.out _)))
  go_wp2
  go_ret
  exact ⟨rfl, _, rfl⟩
set_option maxHeartbeats 1000000 in
set_option maxRecDepth 100000 in
theorem kin_seeds {base : Nat} {w : World} {a b : Nat} {s1 s2 : Int} {r1 r2 : Option Addr} (ha : MapHas base w a s1 r1) (hb : MapHas base w b s2 r2) : Calls Try.prog 50 #[.pointer (some ⟨a, 0, none⟩), .pointer (some ⟨b, 0, none⟩)] w fun e w' => e = .returned (.bool (s1 == s2)) ∧ Drawn w w' := by
  have HA := Lib.hid (real_q ha)
  have HB := Lib.hid (real_q hb)
  obtain ⟨_, m1, _⟩ := ha.cells
  obtain ⟨_, n1, _⟩ := hb.cells
  clear ha hb
  go_enter Try.func50, Try.ntmps50
  go_wp2_with fail
  go_quiet ((first
    | (go_at_call_of 64 (Value.pointer (some ⟨a, 0, none⟩)); exact HA.out _)
    | (go_at_call 64; exact HB.out _)))
  go_wp2
  go_ret
  exact ⟨rfl, _, rfl⟩
set_option maxHeartbeats 1000000 in
set_option maxRecDepth 100000 in
/-- A join that Kin refuses. -/
theorem join_kin {w : World} {u v : Option Addr} (h : Calls Try.prog 50 #[.pointer u, .pointer v] w fun e w' => e = .returned (.bool false) ∧ Drawn w w') :
    Calls Try.prog 49 #[.pointer u, .pointer v] w fun e w' => e = .returned (.tuple #[.pointer none, .int .i64 1]) ∧ Drawn w w' := by
  have H := Lib.hid h
  clear h
  go_enter Try.func49, Try.ntmps49
  go_wp2_with fail
  refine H.out.mono ?_
  rintro e w' ⟨rfl, q, rfl⟩
  go_wp2
  go_ret2
  exact ⟨rfl, q, rfl⟩
set_option maxHeartbeats 1000000 in
set_option maxRecDepth 100000 in
theorem join_self {base : Nat} {w : World} {a : Nat} {s : Int} {r : Option Addr} (ha : MapHas base w a s r) :
    Calls Try.prog 49 #[.pointer (some ⟨a, 0, none⟩), .pointer (some ⟨a, 0, none⟩)] w fun e w' => e = .returned (.tuple #[.pointer none, .int .i64 1]) ∧ Drawn w w' := by
  have hk := kin_seeds ha ha
  rw [beq_self_eq_true] at hk
  have H := Lib.hid hk
  obtain ⟨jm, hjm, _⟩ := info_map
  have heq := fun W => run_eql_ptr_same (P := Try.prog) W (⟨a, 0, none⟩ : Addr) Try.underlying38 hjm
  clear hk ha
  go_enter Try.func49, Try.ntmps49
  go_wp2_with fail
  refine H.out.mono ?_
  rintro e w' ⟨rfl, q, rfl⟩
  go_wp2
  go_ret2
  exact ⟨rfl, q, rfl⟩
end Go.Proofs.Ytdmckjojeddaaaa
