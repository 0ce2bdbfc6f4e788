/- Contract of order's Span at a map that there is not; its iterator yields nothing. Conditions: each names its own. -/
import Derived.Test.YtdmckjojeddaaaaN1
namespace Go.Proofs.Ytdmckjojeddaaaa
open Go.RowKit Go.Proofs.YtdmckjojeddaaaaKit Go.Proofs.YtdmckjojeddaaaaPlain
attribute [local go_sem] Oper.semAt_some

set_option maxHeartbeats 2000000 in
set_option maxRecDepth 100000 in
theorem seq_void {w : World} {v : Option Addr} {n bx : Nat} (hn : 1 ≤ n) (h : Void w v) (hbx : w.cell? ⟨bx, 0, none⟩ = some (.pointer v)) (hbl : bx < w.heap.size) :
    SeqR Fence.wide n Try.prog 79 #[.pointer (some ⟨bx, 0, none⟩)] Came.enc Came.sp (fun _ _ _ => False) (fun xs => xs = []) (fun _ => False) w := by
  intro y J Jx W hW hJ hJx hY h0
  have hcell : W.cell? ⟨bx, 0, none⟩ = some (.pointer v) := (hW.cell (p := ⟨bx, 0, none⟩) hbl (fun x => x)).trans hbx
  have HR := Lib.hid (real_void (h.new_ hW))
  have H0 := Lib.hid h0
  clear h hJ hY h0 hJx hW hbx
  refine callsIn_of_wp Try.func79 rfl trivial ?_ rfl
  simp only [Try.ntmps79, List.size_toArray, List.length_cons, List.length_nil, Nat.reduceAdd, Nat.reduceSub, Array.replicate_succ, Array.replicate_zero, List.push_toArray, List.append_toArray, List.nil_append, List.cons_append]
  gi_wp2_with (refine ⟨trivial, ?_⟩; gi_at_call 64; refine (callsIn_wide.2 HR.out).mono ?_; rintro e w' ⟨rfl, rfl⟩; clear HR)
  refine bodyPost_ret (results_none rfl _ _ _) rfl ?_
  exact ⟨⟨_, rfl⟩, .inl ⟨[], rfl, H0.out⟩⟩

set_option maxHeartbeats 2000000 in
set_option maxRecDepth 100000 in
theorem span_void {w : World} {v : Option Addr} (h : Void w v) (A1 A2 : Option Addr) (m c m' c' : Nat) (bd : Bool) :
    Calls Try.prog 37 #[.pointer v, .slice A1 m c, .slice A2 m' c', .bool bd] w fun e w' => e = .returned (.slice none 0 0) ∧ Keep No w w' := by
  refine (callsIn_wide (n := 3)).1 ?_
  refine callsIn_of_wp_marks Try.func37 rfl trivial ?_ rfl
  simp only [Try.ntmps37, List.size_toArray, List.length_cons, List.length_nil, Nat.reduceAdd, Nat.reduceSub, Array.replicate_succ, Array.replicate_zero, List.push_toArray, List.append_toArray, List.nil_append, List.cons_append]
  gi_wp2_with (refine ⟨trivial, ?_⟩; gi_at_call 41; refine (callsIn_wide.2 (all_any _ _)).mono ?_; rintro e w' ⟨rfl, rfl⟩)
  obtain ⟨w0, hw0⟩ : ∃ w0, (((((w.alloc (Obj.cells #[Value.slice A1 m c] 23)).alloc (Obj.cells #[Value.slice A2 m' c'] 23)).alloc (Obj.cells #[Value.bool bd] 4)).alloc (Obj.cells #[Value.slice none 0 0] 35)).alloc (Obj.cells #[Value.pointer v] 38)) = w0 := ⟨_, rfl⟩
  have hz : w0.heap.size = w.heap.size + 5 := by rw [← hw0]; simp
  have hk0 : Keep No w w0 := by rw [← hw0]; exact (((((Keep.refl No w).alloc _).alloc _).alloc _).alloc _).alloc _
  rw [hw0]
  have hb9 : Blk w0 (w.heap.size + 1 + 1 + 1) 35 #[.slice none 0 0] := by rw [← hw0]; exact (blk_at (by simp)).alloc _
  have hbx : w0.cell? ⟨w.heap.size + 1 + 1 + 1 + 1, 0, none⟩ = some (.pointer v) := by
    have := (show Blk w0 (w.heap.size + 1 + 1 + 1 + 1) _ _ from by rw [← hw0]; exact blk_at (by simp)).cell 0
    simpa using this
  have hseq := seq_void (n := 2) (by omega) (h.new_ hk0) hbx (by omega)
  clear hw0 h hbx
  refine wpIn_rangeR (F := Fence.wide) rfl (by omega) (gf := 79) (lb := #[.pointer (some ⟨w.heap.size + 1 + 1 + 1 + 1, 0, none⟩)]) rfl trivial (enters_of Try.func79 (by kernel_rfl) rfl) hseq (fun _ => rfl) (fun _ _ _ _ h _ _ _ => h)
    (fun pre W => Keep No w W ∧ Blk W (w.heap.size + 1 + 1 + 1) 35 #[.slice none 0 0])
    (fun _ _ _ => False)
    (fun s A B S hs hk hn hB => ⟨hs.1.trans hk (fun b hb => .inr (by have := hB b hb; omega)), blk_keepNC hs.2 hk hn⟩)
    (fun cd s A B S hs hk hn hB => hs)
    ⟨hk0, hb9⟩
    (fun x => { tmps := #[Value.pointer v, Value.slice A1 m c, Value.slice A2 m' c', Value.bool bd,
          undef, Value.pointer (some { block := w.heap.size, off := 0 }),
          Value.pointer (some { block := w.heap.size + 1, off := 0 }),
          Value.pointer (some { block := w.heap.size + 1 + 1, off := 0 }), Value.slice none 0 0,
          Value.pointer (some { block := w.heap.size + 1 + 1 + 1, off := 0 }), Value.slice x.A x.k.length x.c, Value.slice x.B x.v.length x.d,
          Value.pointer v,
          Value.func (Fn.func 79) #[] #[Value.pointer (some { block := w.heap.size + 1 + 1 + 1 + 1, off := 0 })], Value.slice x.A x.k.length x.c, Value.slice x.B x.v.length x.d,
          undef, undef, undef, undef, undef, undef, undef, undef, undef, undef, undef, undef, undef, undef,
          undef, undef, undef, undef], defers := [] }) ?assign ?body ?done ?stop
  case assign =>
    intro l x W K hK
    dsimp only [Came.enc]
    gi_wp2
    exact hK
  case body =>
    rintro y pre x W _ hM
    exact hM.elim
  case done =>
    rintro D ys W hD hF ⟨hkW, b9⟩ hK
    have g9 := b9.cell 0
    simp only [List.getElem?_toArray, List.getElem?_cons_zero] at g9
    have HI := Lib.hid hkW
    clear hkW b9 hF hseq
    gi_wp2
    refine ⟨by simp, .inl ⟨_, _, rfl, run_takeDeferred hK, ?_⟩⟩
    refine ⟨_, results_tmp rfl _ _ _, ?_⟩
    exact ⟨rfl, HI.out.trans (keep_putObj _ _ _) (fun b e => .inr (by have : b = D := e; omega))⟩
  case stop =>
    rintro D cd pre W hD hP hI hK
    exact hI.elim
end Go.Proofs.Ytdmckjojeddaaaa
