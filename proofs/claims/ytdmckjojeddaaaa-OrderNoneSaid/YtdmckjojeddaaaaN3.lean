/- OrderNone: the walk. Conditions: the seed is a number of 64 bits. -/
import Derived.Test.YtdmckjojeddaaaaN2
import Derived.Test.YtdmckjojeddaaaaX1
import Derived.Sort.QuietIn
namespace Go.Proofs.Ytdmckjojeddaaaa
open Go.RowKit Go.Proofs.YtdmckjojeddaaaaKit Go.Proofs.YtdmckjojeddaaaaPlain
attribute [local go_sem] Oper.semAt_some

theorem results_cell_scalar {P : Program} {fn : Func} {p : Tmp} {ty : TypeId} (h : fn.results = #[.cell p ty]) (tmps : Array Value) (w : World) (a : Addr) (v : Value)
    (hp : tmps.getD p undef = .pointer (some a)) (hagg : (isAgg ty).run P w = .ok false w) (hc : w.cell? a = some v) : (results fn tmps).run P w = .ok v w := by
  have hp' : tmps[p]?.getD undef = .pointer (some a) := by simpa using hp
  simp [results, h, hp', asAddr, loadVar, Sem.run_bind, hagg, Result.andThen, go_sem, hc]
theorem beq_wrap {s : Int} (h0 : 0 ≤ s) (h1 : s ≤ 18446744073709551615) : (s == IntKind.u64.wrap (s + 1)) = false := by
  apply beq_eq_false_iff_ne.2
  show s ≠ (s + 1) % 18446744073709551616
  omega

set_option maxHeartbeats 8000000 in
set_option maxRecDepth 200000 in
theorem orderNone_walk {base : Nat} (seed : Int) (zero : Bool) (A : Option Addr) (n c : Nat) (key : List UInt8) (B : Option Addr) (n2 c2 : Nat) (value : List UInt8) (C : Option Addr) (n3 c3 : Nat) (high : List UInt8) (bd : Bool) (num : Int) (w : World)
    (hk : Bytes base w A n key) (hv : Bytes base w B n2 value) (hh : Bytes base w C n3 high) (hb : base ≤ w.heap.size) (hs0 : 0 ≤ seed) (hs1 : seed ≤ 18446744073709551615) :
    Calls Try.prog 13 #[.agg #[.int .u64 seed, .bool zero, .slice A n c, .slice B n2 c2, .slice C n3 c3, .bool bd, .int .i64 num]] w fun e w' => e = .returned (.bool true) ∧ Keep No w w' := by
  have HB := Lib.hid (Blk.new w 103 #[.int .u64 seed, .bool zero, .slice A n c, .slice B n2 c2, .slice C n3 c3, .bool bd, .int .i64 num])
  have hseed := Lib.hid (beq_wrap hs0 hs1)
  clear hk hv hh hs0 hs1
  refine (callsIn_wide (n := 3)).1 ?_
  refine callsIn_of_wp_marks Try.func13 rfl trivial ?_ rfl
  simp only [Try.ntmps13, List.size_toArray, List.length_cons, List.length_nil, Nat.reduceAdd, Nat.reduceSub, Array.replicate_succ, Array.replicate_zero, List.push_toArray, List.append_toArray, List.nil_append, List.cons_append]
  have HB2 := Lib.hid (HB.out.alloc (.cells #[.bool false] 4))
  have f0 := HB2.out.cell 0
  have f1 := HB2.out.cell 1
  have f2 := HB2.out.cell 2
  have f3 := HB2.out.cell 3
  have f4 := HB2.out.cell 4
  have f5 := HB2.out.cell 5
  have f6 := HB2.out.cell 6
  simp only [List.getElem?_toArray, List.getElem?_cons_zero, List.getElem?_cons_succ] at f0 f1 f2 f3 f4 f5 f6
  have hr0 : Keep No w ((w.alloc (.cells #[.int .u64 seed, .bool zero, .slice A n c, .slice B n2 c2, .slice C n3 c3, .bool bd, .int .i64 num] 103)).alloc (.cells #[.bool false] 4)) := ((Keep.refl No w).alloc _).alloc _
  have HR0 := Lib.hid (show _ ∧ _ from ⟨hr0, (show Blk ((w.alloc (.cells #[.int .u64 seed, .bool zero, .slice A n c, .slice B n2 c2, .slice C n3 c3, .bool bd, .int .i64 num] 103)).alloc (.cells #[.bool false] 4)) (w.heap.size + 1) 4 #[.bool false] from blk_at (by simp))⟩)
  clear hr0
  gi_wp2_with fail
  gi_quiet (fail)
  obtain ⟨w0, hw0⟩ : ∃ x, x = World.drewN ((w.alloc (.cells #[.int .u64 seed, .bool zero, .slice A n c, .slice B n2 c2, .slice C n3 c3, .bool bd, .int .i64 num] 103)).alloc (.cells #[.bool false] 4)) nq := ⟨_, rfl⟩
  rw [← hw0]
  have K0 := Lib.hid (show Keep No w w0 ∧ Blk w0 (w.heap.size + 1) 4 #[.bool false] from by rw [hw0]; exact ⟨HR0.out.1.drewN nq, HR0.out.2.drewN nq⟩)
  clear HB HB2 HR0 hw0 f0 f1 f2 f3 f4 f5 f6
  cases zero
  case' false =>
    gi_wp2_with fail
    obtain ⟨wv, hwv⟩ : ∃ x, x = w0 := ⟨_, rfl⟩
    rw [← hwv] at K0 ⊢
    have HV := Lib.hid (show Void wv none ∧ ∀ b, wv.heap.size ≤ b → (none : Option Addr) ≠ some ⟨b, 0, none⟩ from ⟨.inl rfl, fun b _ e => by cases e⟩)
    have HQ := Lib.hid (fun (W : World) (h : Void W none) => seq_void (n := 2) (bx := W.heap.size) (by omega) (h.new_ ((Keep.refl No W).alloc (.cells #[.pointer none] 38))) ((Blk.new W 38 #[.pointer none]).cell 0) (by simp))
    clear hwv
  case' true =>
    gi_wp2_with fail
    obtain ⟨wv, hwv⟩ : ∃ x, x = w0.alloc (.cells #[.bool false, .int .u64 0, .pointer none] 106) := ⟨_, rfl⟩
    rw [← hwv]
    have HV := Lib.hid (show Void wv (some ⟨w0.heap.size, 0, none⟩) ∧ ∀ b, wv.heap.size ≤ b → (some ⟨w0.heap.size, 0, none⟩ : Option Addr) ≠ some ⟨b, 0, none⟩ from by
      rw [hwv]
      exact ⟨.inr ⟨_, rfl, Blk.new _ _ _⟩, fun b h e => by injection e with e; injection e with e; rw [World.size_alloc] at h; omega⟩)
    have K1 := Lib.hid (show Keep No w wv ∧ Blk wv (w.heap.size + 1) 4 #[.bool false] from by rw [hwv]; exact ⟨K0.out.1.alloc _, K0.out.2.alloc _⟩)
    have HQ := Lib.hid (fun (W : World) (h : Void W (some ⟨w0.heap.size, 0, none⟩)) => seq_void (n := 2) (bx := W.heap.size) (by omega) (h.new_ ((Keep.refl No W).alloc (.cells #[.pointer (some ⟨w0.heap.size, 0, none⟩)] 38))) ((Blk.new W 38 #[.pointer (some ⟨w0.heap.size, 0, none⟩)]).cell 0) (by simp))
    clear hwv K0
    have K0 := K1
    clear K1
  all_goals
    refine ⟨trivial, ?_⟩
    refine (callsIn_wide.2 (get_void HV.out.1 _ _ _)).mono ?_
    rintro e w' ⟨rfl, rfl⟩
    gi_wp2_with fail
    refine ⟨trivial, ?_⟩
    refine (callsIn_wide.2 (at_void HV.out.1 _)).mono ?_
    rintro e w1 ⟨rfl, k1⟩
    have HK1 := Lib.hid k1
    clear k1
    gi_wp2_with fail
    obtain ⟨w2, hw2⟩ : ∃ x, x = w1.alloc (.cells #[.slice none 0 0, .slice none 0 0] 82) := ⟨_, rfl⟩
    rw [← hw2]
    have H2 := Lib.hid (show Keep No wv w2 ∧ Blk w2 w1.heap.size 82 #[.slice none 0 0, .slice none 0 0] ∧ wv.heap.size ≤ w1.heap.size from by rw [hw2]; exact ⟨HK1.out.alloc _, Blk.new _ _ _, HK1.out.size⟩)
    clear hw2 HK1
    generalize w1.heap.size = pb at *
    refine ⟨trivial, ?_⟩
    refine (callsIn_wide.2 (spanDigest_void (HV.out.1.new_ H2.out.1) _ _ _ _ _ _ _)).mono ?_
    rintro e w' ⟨rfl, rfl⟩
    gi_wp2_with fail
    refine ⟨trivial, ?_⟩
    refine (callsIn_wide.2 (cut_void (HV.out.1.new_ H2.out.1) _ _ _)).mono ?_
    rintro e w' ⟨rfl, rfl⟩
    gi_wp2_with fail
    refine ⟨trivial, ?_⟩
    refine (callsIn_wide.2 (new_any seed _)).mono ?_
    rintro e w3 ⟨rfl, hw3⟩
    have hb2 : base ≤ w2.heap.size := Nat.le_trans hb (K0.out.1.trans H2.out.1 (fun _ x => x.elim)).size
    have M3 := Lib.hid (show MSt base w3 w2.heap.size seed [] [w2.heap.size] ∧ Keep No w2 w3 from by rw [hw3]; exact ⟨MSt.made hb2, (Keep.refl No w2).alloc _⟩)
    have hpo := Lib.hid (show pb < w2.heap.size ∧ wv.heap.size ≤ w2.heap.size from ⟨H2.out.2.1.lt, H2.out.1.size⟩)
    have hb3 : base ≤ w3.heap.size := Nat.le_trans hb2 M3.out.2.size
    clear hw3
    generalize w2.heap.size = ob at *
    gi_wp2_with fail
    have hP := MPut_ok (A := some ⟨w3.heap.size, 0, none⟩) (B := none) (n := 1) (c := 1) (m := 0) (d := 0) (key := [1]) (value := []) (M3.out.1.new_ ((Keep.refl No w3).alloc (.cells #[.int .u8 1] 5))) (reads_one w3 5 (.int .u8 1) (byteV 1) rfl rfl) Bytes.none_ ⟨by simp, by simp, by simp⟩ (by simp) (by simp; omega)
    refine ⟨trivial, ?_⟩
    refine (callsIn_wide.2 hP).mono ?_
    rintro e w4 ⟨rfl, F4, m4, k4, hF4⟩
    have h24 : Keep (In [ob]) w2 w4 := ((M3.out.2.alloc _).mono (S' := In [ob]) (fun _ x => x.elim)).trans k4 (fun x hx => .inl hx)
    have hvoid := (HV.out.1.new_ H2.out.1).keep h24 (fun mb e hx => by simp [In] at hx; subst hx; exact HV.out.2 _ hpo.out.2 e)
    have hne := HV.out.2 ob hpo.out.2
    have hsz0 := K0.out.1.size
    have hres := (K0.out.2.keep H2.out.1 (fun x => x)).keep h24 (fun hx => by have := K0.out.2.lt; have := hpo.out.2; simp [In] at hx; omega)
    have hpair := H2.out.2.1.keep h24 (fun hx => by have := hpo.out.1; simp [In] at hx; omega)
    have hkw : Keep No w w4 := (K0.out.1.trans H2.out.1 (fun _ x => x.elim)).trans h24 (fun x hx => .inr (by have := hpo.out.2; simp [In] at hx; omega))
    have HS := Lib.hid (fun W (k : Keep No w4 W) => (show _ ∧ _ ∧ _ ∧ _ ∧ _ from ⟨hvoid.new_ k, m4.new_ k, hres.keep k (fun x => x), hpair.keep k (fun x => x), hkw.trans k (fun _ x => x.elim)⟩))
    have HSo := Lib.hid (show ∀ W, Keep No w4 W → ∃ root, MapHas base W ob seed root from fun W k => by
      obtain ⟨t, hO, _⟩ := m4.new_ k
      exact ⟨_, hO.has⟩)
    have HNE := Lib.hid hne
    have hlen := Lib.hid (show (putL [] [1] []).length = 1 from rfl)
    have KR := Lib.hid (fun q => (Keep.refl No w4).drewN q)
    have h34 : w3.heap.size ≤ w4.heap.size := by have := k4.size; simp at this; omega
    clear h24 hvoid hres hpair hkw m4 k4 hF4 hP M3 H2 HV K0 hne hpo hsz0
    gi_wp2_with fail
    refine ⟨trivial, ?_⟩
    refine (callsIn_wide.2 (join_kin (kin_void_l (HS.out _ (Keep.refl _ _)).1))).mono ?_
    rintro e w' ⟨rfl, q1, rfl⟩
    gi_wp2_with fail
    obtain ⟨r1, o1⟩ := HSo.out _ (KR.out q1)
    have O1 := Lib.hid o1
    clear o1
    refine ⟨trivial, ?_⟩
    refine (callsIn_wide.2 (join_kin (kin_void_r O1.out (HS.out _ (KR.out q1)).1 HNE.out))).mono ?_
    rintro e w' ⟨rfl, q2, rfl⟩
    clear O1
    gi_wp2_with fail
    obtain ⟨r2, o2⟩ := HSo.out _ (KR.out (q1 + q2))
    have O2 := Lib.hid o2
    clear o2
    refine ⟨trivial, ?_⟩
    refine (callsIn_wide.2 (join_self O2.out)).mono ?_
    rintro e w' ⟨rfl, q3, rfl⟩
    clear O2
    gi_wp2_with fail
    refine ⟨trivial, ?_⟩
    refine (callsIn_wide.2 (new_any _ _)).mono ?_
    rintro e w5 ⟨rfl, hw5⟩
    have H5 := Lib.hid (show Keep No w4 w5 ∧ MapHas base w5 w4.heap.size (IntKind.u64.wrap (seed + 1)) none from by
      rw [hw5]
      exact ⟨(KR.out (q1 + q2 + q3)).alloc _, Nat.le_trans hb3 h34, Blk.new _ _ _⟩)
    clear hw5
    gi_wp2_with fail
    obtain ⟨r3, o3⟩ := HSo.out _ H5.out.1
    have hks := kin_seeds o3 H5.out.2
    rw [hseed.out] at hks
    have HKS := Lib.hid hks
    clear hks o3
    refine ⟨trivial, ?_⟩
    refine (callsIn_wide.2 (join_kin HKS.out)).mono ?_
    rintro e w' ⟨rfl, q4, rfl⟩
    have K5 := Lib.hid (H5.out.1.drewN q4)
    clear HKS H5
    gi_wp2_with fail
    refine ⟨trivial, ?_⟩
    refine (callsIn_wide.2 (all_any _ _)).mono ?_
    rintro e w' ⟨rfl, rfl⟩
    obtain ⟨w6, hw6⟩ : ∃ x, x = w5.drewN q4 := ⟨_, rfl⟩
    rw [← hw6] at K5 ⊢
    clear hw6
    gi_wp2_with fail
    refine' wpIn_rangeR (F := Fence.wide) rfl (by omega) (gf := 79) (lb := #[.pointer (some ⟨w6.heap.size, 0, none⟩)]) rfl trivial (enters_of Try.func79 (by kernel_rfl) rfl) (HQ.out w6 (HS.out _ K5.out).1) (fun _ => rfl) (fun _ _ _ _ h _ _ _ => h)
      (fun pre W => Keep No w6 W) (fun _ _ _ => False)
      (fun s A B S hs hk hn hB => hs.trans hk (fun b hb => .inr (by have := hB b hb; simp at this; omega)))
      (fun cd s A B S hs hk hn hB => hs)
      ((Keep.refl No w6).alloc _) _ _ _ _ _
    rotate_left
    · intro l x W K hK
      gi_wp2
      exact hK
    · rintro y pre x W _ hM
      exact hM.elim
    rotate_left
    · rintro D cd pre W hD hP hI hK
      exact hI.elim
    · rintro D ys W hD hF hkW hK
      have K7 := Lib.hid (K5.out.trans hkW (fun _ x => x.elim))
      have HK := Lib.hid hK
      have g0 := (HS.out _ K7.out).2.2.2.1.cell 0
      have g1 := (HS.out _ K7.out).2.2.2.1.cell 1
      simp only [List.getElem?_toArray, List.getElem?_cons_zero, List.getElem?_cons_succ] at g0 g1
      clear hkW hF HQ hK
      gi_wp2_with fail
      refine ⟨trivial, ?_⟩
      refine (callsIn_wide.2 (put_void (HS.out _ K7.out).1 _ _ _ _ _ _)).mono ?_
      rintro e w' ⟨rfl, rfl⟩
      gi_wp2_with fail
      refine ⟨trivial, ?_⟩
      refine (callsIn_wide.2 (drop_void (HS.out _ K7.out).1 _ _ _)).mono ?_
      rintro e w' ⟨rfl, rfl⟩
      gi_wp2_with fail
      refine ⟨trivial, ?_⟩
      refine (callsIn_wide.2 (len_void (HS.out _ K7.out).1)).mono ?_
      rintro e w' ⟨rfl, rfl⟩
      gi_wp2_with fail
      refine ⟨trivial, ?_⟩
      refine (callsIn_wide.2 (digest_void (HS.out _ K7.out).1)).mono ?_
      rintro e w' ⟨rfl, rfl⟩
      gi_wp2_with fail
      refine ⟨trivial, ?_⟩
      refine (callsIn_wide.2 (image_void (HS.out _ K7.out).1)).mono ?_
      rintro e w' ⟨rfl, rfl⟩
      gi_wp2_with fail
      refine ⟨trivial, ?_⟩
      refine (callsIn_wide.2 (rank_void (HS.out _ K7.out).1 _ _ _)).mono ?_
      rintro e w' ⟨rfl, rfl⟩
      gi_wp2_with fail
      refine ⟨trivial, ?_⟩
      refine (callsIn_wide.2 (span_void (HS.out _ K7.out).1 _ _ _ _ _ _ _)).mono ?_
      rintro e W8 ⟨rfl, k8⟩
      have K8 := Lib.hid (K7.out.trans k8 (fun _ x => x.elim))
      have HK8 := Lib.hid ((k8.block D (loop_lt HK.out) (fun x => x)).trans HK.out)
      clear k8 HK
      gi_wp2_with fail
      refine ⟨trivial, ?_⟩
      refine (callsIn_wide.2 (nodes_void (HS.out _ K8.out).1)).mono ?_
      rintro e w' ⟨rfl, rfl⟩
      gi_wp2_with fail
      refine ⟨trivial, ?_⟩
      refine (callsIn_wide.2 (prove_void (HS.out _ K8.out).1 _ _ _)).mono ?_
      rintro e w' ⟨rfl, rfl⟩
      gi_wp2_with fail
      have hl := len_any (HS.out _ K8.out).2.1
      rw [hlen.out] at hl
      have HL := Lib.hid hl
      clear hl
      refine ⟨trivial, ?_⟩
      refine (callsIn_wide.2 (HL.out)).mono ?_
      rintro e w' ⟨rfl, rfl⟩
      gi_wp2_with fail
      refine ⟨trivial, ?_⟩
      refine (callsIn_wide.2 (kin_void_l (HS.out _ K8.out).1)).mono ?_
      rintro e w' ⟨rfl, q5, rfl⟩
      gi_wp2_with fail
      obtain ⟨r5, o5⟩ := HSo.out _ (K8.out.drewN q5)
      have O5 := Lib.hid o5
      clear o5
      refine ⟨trivial, ?_⟩
      refine (callsIn_wide.2 (kin_void_r O5.out (HS.out _ (K8.out.drewN q5)).1 HNE.out)).mono ?_
      rintro e w' ⟨rfl, q6, rfl⟩
      clear O5
      gi_wp2_with fail
      have hb9 := (HS.out _ K8.out).2.2.1
      have c9 := hb9.cell 0
      have z9 := hb9.frozen 0
      simp only [List.getElem?_toArray, List.getElem?_cons_zero] at c9
      clear hb9
      refine ⟨trivial, ?_⟩
      refine (callsIn_wide.2 (kin_void_l (HS.out _ (K8.out.drewN (q5 + q6))).1)).mono ?_
      rintro e w' ⟨rfl, q7, rfl⟩
      gi_wp2_with fail
      have hrb := (HS.out _ K5.out).2.2.1.lt
      have hwD : w.heap.size + 1 < D := by simp at hD; omega
      have hneD : D ≠ w.heap.size + 1 := by omega
      have hK9 : ((W8.drewN (q5 + q6 + q7)).setCell ⟨w.heap.size + 1, 0, none⟩ (.bool true)).heap[D]? = some (.deferred (some [])) := (Below.heap_setCell (W8.drewN (q5 + q6 + q7)) ⟨w.heap.size + 1, 0, none⟩ (.bool true) D hneD).trans HK8.out
      have hB9 : Blk ((W8.drewN (q5 + q6 + q7)).setCell ⟨w.heap.size + 1, 0, none⟩ (.bool true)) (w.heap.size + 1) 4 #[.bool true] := by
        have := ((HS.out _ K8.out).2.2.1.drewN (q5 + q6 + q7)).set_ 0 (.bool true)
        simpa using this
      have hkF : Keep No w ((W8.drewN (q5 + q6 + q7)).setCell ⟨w.heap.size + 1, 0, none⟩ (.bool true)) := ((HS.out _ K8.out).2.2.2.2.drewN (q5 + q6 + q7)).setCell (p := ⟨w.heap.size + 1, 0, none⟩) (.inr (Nat.le_succ _)) _
      refine ⟨by simp, .inl ⟨_, _, rfl, run_takeDeferred hK9, ?_⟩⟩
      refine ⟨_, results_cell_scalar rfl _ _ ⟨w.heap.size + 1, 0, none⟩ (.bool true) rfl (Try.isAgg4 _) ?_, rfl, ?_⟩
      · have := (hB9.keep (keep_putObj _ D (.deferred none)) (fun e => hneD (Eq.symm e))).cell 0
        simpa using this
      · exact hkF.trans (keep_putObj _ D (.deferred none)) (fun b e => .inr (by have : b = D := e; omega))
end Go.Proofs.Ytdmckjojeddaaaa
