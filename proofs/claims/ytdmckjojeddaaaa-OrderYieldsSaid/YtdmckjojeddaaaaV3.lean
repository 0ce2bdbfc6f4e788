/- Contract of the laws' ranged where the map holds just these pairs. Conditions: it names its own. -/
import Derived.Test.YtdmckjojeddaaaaV2
import Derived.Test.YtdmckjojeddaaaaC5
namespace Go.Proofs.Ytdmckjojeddaaaa
open Go.RowKit Go.Proofs.YtdmckjojeddaaaaKit Go.Proofs.YtdmckjojeddaaaaPlain
attribute [local go_sem] Oper.semAt_some

/-- Cells that hold bytes. -/
def ByteCells (W : World) (A : Option Addr) (n : Nat) (S : Nat → Prop) : Prop := 0 < n → ∃ g, A = some ⟨g, 0, none⟩ ∧ S g ∧ ∀ j, j < n → (∃ i, W.cell? ⟨g, j, none⟩ = some (.int .u8 i)) ∧ W.frozen? ⟨g, j, none⟩ = false
section
variable {W : World} {A : Option Addr} {n : Nat} {S : Nat → Prop}
theorem add_zero_ (g j : Nat) : (⟨g, 0, none⟩ : Addr).add j = ⟨g, j, none⟩ := by
  unfold Addr.add
  by_cases h : j = 0 <;> simp [h]
theorem ByteCells.of_own {lo c : Nat} {bs : List UInt8} (h : W.ownsRow lo 5 1 (.slice A n c) n (byteVs bs)) (hs : ∀ b, (Value.slice A n c).ownBlock = some b → S b) : ByteCells W A n S := fun hn => by
  have hb := Bytes.of_own (base := 0) h
  rcases h.2 with ⟨e, _⟩ | ⟨g, cap, cur, e, _, h4, _⟩
  · injection e with _ e; omega
  · injection e with e1 e2 e3
    subst e1
    refine ⟨g, rfl, hs g (by simp [Value.ownBlock]), fun j hj => ⟨?_, Blk.frozen (show Blk W g 5 _ from h4) j⟩⟩
    obtain ⟨ad, e, hc⟩ := hb.at_ hj
    injection e with e
    subst e
    rw [add_zero_ g j] at hc
    exact ⟨_, hc⟩
theorem ByteCells.set (h : ByteCells W A n S) {g j : Nat} {i i' : Int} (hc : W.cell? ⟨g, j, none⟩ = some (.int .u8 i)) : ByteCells (W.setCell ⟨g, j, none⟩ (.int .u8 i')) A n S := fun hn => by
  obtain ⟨g', e, hs, hh⟩ := h hn
  refine ⟨g', e, hs, fun j' hj' => ?_⟩
  obtain ⟨⟨i2, h1⟩, h2⟩ := hh j' hj'
  refine ⟨?_, by rw [World.frozen?_setCell]; exact h2⟩
  by_cases he : (⟨g, j, none⟩ : Addr) = ⟨g', j', none⟩
  · rw [← he]; exact ⟨_, World.cell?_setCell_same' _ _ _ (by rw [hc]; rfl)⟩
  · exact ⟨i2, (World.cell?_setCell_other _ _ _ _ he).trans h1⟩
theorem ByteCells.put (h : ByteCells W A n S) {p : Addr} {u : Value} (hp : ¬ S p.block) : ByteCells (W.setCell p u) A n S := fun hn => by
  obtain ⟨g', e, hs, hh⟩ := h hn
  refine ⟨g', e, hs, fun j' hj' => ?_⟩
  obtain ⟨⟨i2, h1⟩, h2⟩ := hh j' hj'
  exact ⟨⟨i2, (World.cell?_setCell_other _ _ _ _ (fun (e : p = ⟨g', j', none⟩) => hp (by rw [e]; exact hs))).trans h1⟩, by rw [World.frozen?_setCell]; exact h2⟩
theorem ByteCells.drewN (h : ByteCells W A n S) (k : Nat) : ByteCells (W.drewN k) A n S := h
end

theorem prs_at {l : List Pair} {pre : List Came} {x : Came} (h : prs (pre ++ [x]) <+: l) : ∃ hlt : pre.length < l.length, l[pre.length] = x.pr := by
  obtain ⟨r, rfl⟩ := h
  have : (prs (pre ++ [x]) ++ r)[pre.length]? = some x.pr := by simp [prs]
  obtain ⟨h1, h2⟩ := List.getElem?_eq_some_iff.1 this
  exact ⟨h1, h2⟩
/-- Between two rounds of ranged. -/
structure RangedI (w : World) (L : Option Addr) (m d q : Nat) (W : World) : Prop where
  k : Keep No w W
  b3 : Blk W w.heap.size 35 #[.slice L m d]
  b5 : Blk W (w.heap.size + 1) 3 #[.int .i64 q]
  b6 : Blk W (w.heap.size + 1 + 1) 4 #[.bool true]
theorem RangedI.stable {w : World} {L : Option Addr} {m d q B0 : Nat} (hB : w.heap.size ≤ B0) {A W : World} {S : Nat → Prop} (h : RangedI w L m d q A) (hk : Keep S A W) (hn : NoCells A S) (hs : ∀ b, S b → B0 ≤ b) : RangedI w L m d q W :=
  ⟨h.k.trans hk (fun b hb => .inr (Nat.le_trans hB (hs b hb))), blk_keepNC h.b3 hk hn, blk_keepNC h.b5 hk hn, blk_keepNC h.b6 hk hn⟩
/-- Within a round. -/
structure RangedB (w W : World) (L : Option Addr) (m d q : Nat) (sp : Nat → Prop) (A B : Option Addr) (n n' : Nat) (S : Nat → Prop) (wr : World) : Prop where
  i : RangedI w L m d q wr
  kW : Keep (fun b => b < w.heap.size + 4 ∨ sp b) W wr
  cA : ByteCells wr A n S
  cB : ByteCells wr B n' S
section
variable {w W wr : World} {L : Option Addr} {m d q n n' : Nat} {sp : Nat → Prop} {A B : Option Addr} {S : Nat → Prop}
theorem RangedB.store (h : RangedB w W L m d q sp A B n n' S wr) (hS : ∀ b, S b → sp b ∧ w.heap.size + 4 ≤ b) {g j : Nat} {i i' : Int} (hg : S g) (hc : wr.cell? ⟨g, j, none⟩ = some (.int .u8 i)) : RangedB w W L m d q sp A B n n' S (wr.setCell ⟨g, j, none⟩ (.int .u8 i')) := by
  have h2 := (hS g hg).2
  exact ⟨⟨h.i.k.trans ((Keep.refl (fun b => b = g) wr).setCell (p := ⟨g, j, none⟩) (.inl rfl) _) (fun b e => .inr (by have : b = g := e; omega)), h.i.b3.far (by simp <;> omega) _, h.i.b5.far (by simp <;> omega) _, h.i.b6.far (by simp <;> omega) _⟩,
    h.kW.setCell (p := ⟨g, j, none⟩) (.inl (.inr (hS g hg).1)) _, h.cA.set hc, h.cB.set hc⟩
end

set_option maxHeartbeats 2000000 in
set_option maxRecDepth 100000 in
theorem ranged_any {base : Nat} {w : World} {mb : Nat} {seed : Int} {l : List Pair} {F : List Nat} {L : Option Addr} {d : Nat} (h : MSt base w mb seed l F) (hb : base ≤ w.heap.size) (hsz : l.length ≤ 900000) (hok : Small l)
    (hl : Pairs base w L l.length l) :
    Calls Try.prog 76 #[.pointer (some ⟨mb, 0, none⟩), .slice L l.length d] w fun e w' => e = .returned (.bool true) ∧ Keep No w w' := by
  refine (callsIn_wide (n := 3)).1 ?_
  refine callsIn_of_wp_marks Try.func76 rfl trivial ?_ rfl
  simp only [Try.ntmps76, List.size_toArray, List.length_cons, List.length_nil, Nat.reduceAdd, Nat.reduceSub, Array.replicate_succ, Array.replicate_zero, List.push_toArray, List.append_toArray, List.nil_append, List.cons_append]
  gi_wp2_with (refine ⟨trivial, ?_⟩; gi_at_call 41; refine (callsIn_wide.2 (all_any _ _)).mono ?_; rintro e w' ⟨rfl, rfl⟩)
  obtain ⟨w0, hw0⟩ : ∃ w0, ((((w.alloc (Obj.cells #[Value.slice L l.length d] 35)).alloc (Obj.cells #[Value.int IntKind.i64 0] 3)).alloc (Obj.cells #[Value.bool true] 4)).alloc (Obj.cells #[Value.pointer (some { block := mb, off := 0 })] 38)) = w0 := ⟨_, rfl⟩
  have hz : w0.heap.size = w.heap.size + 4 := by rw [← hw0]; simp
  have hk0 : Keep No w w0 := by rw [← hw0]; exact ((((Keep.refl No w).alloc _).alloc _).alloc _).alloc _
  rw [hw0]
  have hI0 : RangedI w L l.length d 0 w0 := by
    refine ⟨hk0, ?_, ?_, ?_⟩
    · rw [← hw0]; exact (((blk_at rfl).alloc _).alloc _).alloc _
    · rw [← hw0]; exact ((blk_at (by simp)).alloc _).alloc _
    · rw [← hw0]; exact (blk_at (by simp)).alloc _
  have hbx : w0.cell? ⟨w.heap.size + 1 + 1 + 1, 0, none⟩ = some (.pointer (some ⟨mb, 0, none⟩)) := by
    have := (show Blk w0 (w.heap.size + 1 + 1 + 1) _ _ from by rw [← hw0]; exact blk_at (by simp)).cell 0
    simpa using this
  have H1 := Lib.hid (show _ ∧ _ from ⟨hl, hok⟩)
  have hseq := seq_any (n := 2) (by omega) (h.new_ hk0) (Nat.le_trans hb hk0.size) (by omega) hbx (by omega)
  clear hw0 h hl hok hbx
  refine wpIn_rangeR (F := Fence.wide) rfl (by omega) (gf := 79) (lb := #[.pointer (some ⟨w.heap.size + 1 + 1 + 1, 0, none⟩)]) rfl trivial (enters_of Try.func79 (by kernel_rfl) rfl) hseq (fun _ => rfl) Came.stable
    (fun pre W => RangedI w L l.length d pre.length W)
    (fun _ _ _ => False)
    (fun s A B S hs hk hn hB => hs.stable (by omega) hk hn hB)
    (fun cd s A B S hs hk hn hB => hs)
    hI0
    (fun x => { tmps := #[Value.pointer (some { block := mb, off := 0 }), Value.slice L l.length d, undef, Value.pointer (some { block := w.heap.size, off := 0 }), Value.bool false, Value.pointer (some { block := w.heap.size + 1, off := 0 }), Value.pointer (some { block := w.heap.size + 1 + 1, off := 0 }), Value.slice x.A x.k.length x.c, Value.slice x.B x.v.length x.d, undef, undef, Value.pointer (some { block := mb, off := 0 }), Value.func (Fn.func 79) #[] #[Value.pointer (some { block := w.heap.size + 1 + 1 + 1, off := 0 })], Value.slice x.A x.k.length x.c, Value.slice x.B x.v.length x.d, undef, undef, undef, undef, undef, undef, undef, undef, undef, undef, undef, undef, undef, undef, undef, undef, undef, undef, undef, undef, undef, undef, undef, undef, undef, undef, undef, undef, undef, undef, undef, undef, undef, undef, undef, undef, undef, undef, undef, undef, undef, undef, undef, undef, undef, undef, undef, undef, undef, undef, undef, undef, undef, undef, undef, undef, undef, undef, undef, undef, undef, undef], defers := [] }) ?assign ?body ?done ?stop
  case assign =>
    intro l x W K hK
    dsimp only [Came.enc]
    gi_wp2
    exact hK
  case stop =>
    rintro D cd pre W hD hP h _
    exact h.elim
  case done =>
    rintro D ys W hD hF hI hK
    have hlen : ys.length = l.length := by rw [← hF]; simp [prs]
    have g3 := hI.b3.cell 0
    have g5 := hI.b5.cell 0
    have g6 := hI.b6.cell 0
    simp only [List.getElem?_toArray, List.getElem?_cons_zero] at g3 g5 g6
    rw [hlen] at g5
    have HI := Lib.hid hI.k
    clear hI hF hseq hI0
    gi_wp2
    refine ⟨by simp, .inl ⟨_, _, rfl, run_takeDeferred hK, ?_⟩⟩
    refine ⟨_, results_tmp rfl _ _ _, rfl, HI.out.trans (keep_putObj _ _ _) (fun b e => .inr (by have : b = D := e; omega))⟩
  case body =>
    rintro y pre x W hI hM hsp hWs
    rw [hz] at hM ⊢
    have hM' := hM
    obtain ⟨m1, m2, m3, m4, m5, m6, m7⟩ := hM'
    obtain ⟨hlt, hx⟩ := prs_at m1
    have hcm := m3.came
    have hsm := H1.out.2 x.pr (hx ▸ List.getElem_mem hlt)
    have hlw := H1.out.1.keep hI.k (fun _ h => h.elim)
    obtain ⟨ad, A1, c1, A2, c2, rfl, him, e0, e1, b1, b2⟩ := hlw.at_ hlt
    rw [hx] at e0 e1 b1 b2
    simp only [Came.pr] at e0 e1 b1 b2 hsm
    have HS1 := Lib.hid ((same_any x.A A1 x.k.length x.c x.k.length c1 x.k x.k W (Bytes.of_own (base := base) hcm.1) b1 (by omega) (by omega)).mono (R' := fun e w' => e = .returned (.bool true) ∧ Drawn W w') (by rintro e w' ⟨rfl, h⟩; exact ⟨by simp, h⟩))
    have HS2 := Lib.hid (fun a => (same_any x.B A2 x.v.length x.d x.v.length c2 x.v x.v (W.drewN a) ((Bytes.of_own (base := base) hcm.2).drewN a) (b2.drewN a) (by omega) (by omega)).mono (R' := fun e w' => e = .returned (.bool true) ∧ Drawn (W.drewN a) w') (by rintro e w' ⟨rfl, h⟩; exact ⟨by simp, h⟩))
    obtain ⟨S, hS⟩ : ∃ S : Nat → Prop, S = fun b => x.sp b ∧ w.heap.size + 4 ≤ b := ⟨_, rfl⟩
    have hSb : ∀ b, S b → x.sp b ∧ w.heap.size + 4 ≤ b := fun b hb => by rw [hS] at hb; exact hb
    have HSB := Lib.hid hSb
    have g3 := hI.b3.cell 0
    have g5 := hI.b5.cell 0
    have g6 := hI.b6.cell 0
    have q6 := hI.b6.frozen 0
    simp only [List.getElem?_toArray, List.getElem?_cons_zero] at g3 g5 g6
    have HB0 := Lib.hid (show ∀ q1, RangedB w W (some ad) l.length d pre.length x.sp x.A x.B x.k.length x.v.length S ((W.drewN q1).setCell ⟨w.heap.size + 1 + 1, 0, none⟩ (.bool true)) from fun q1 =>
      ⟨⟨(hI.k.drewN q1).trans ((Keep.refl (fun b => b = w.heap.size + 1 + 1) _).setCell (p := ⟨w.heap.size + 1 + 1, 0, none⟩) (.inl rfl) _) (fun b e => .inr (by have : b = w.heap.size + 1 + 1 := e; omega)),
        (hI.b3.drewN q1).far (by simp <;> omega) _, (hI.b5.drewN q1).far (by simp) _, by have := (hI.b6.drewN q1).set_ 0 (.bool true); simpa using this⟩,
        ((Keep.refl (fun b => b < w.heap.size + 4 ∨ x.sp b) W).drewN q1).setCell (p := ⟨w.heap.size + 1 + 1, 0, none⟩) (.inl (.inl (by simp <;> omega))) _,
        ((ByteCells.of_own hcm.1 (fun b e => by rw [hS]; exact ⟨.inl e, by have := (World.ownsRow.lt hcm.1 b e).1; omega⟩)).drewN q1).put (fun h => by have := (hSb _ h).2; simp at this; omega),
        ((ByteCells.of_own hcm.2 (fun b e => by rw [hS]; exact ⟨.inr (.inl e), by have := (World.ownsRow.lt hcm.2 b e).1; omega⟩)).drewN q1).put (fun h => by have := (hSb _ h).2; simp at this; omega)⟩)
    have hab := him.lt
    clear hlw b1 b2 hcm m3 hM hSb hI him hx m1 m7 hS hsp
    obtain ⟨sp, hsp⟩ : ∃ sp, sp = x.sp := ⟨_, rfl⟩
    rw [← hsp] at HB0 HSB ⊢
    clear hsp
    cases x with | mk xk xv xA xc xB xd xlo xmid xtop =>
    dsimp only at *
    gi_wp2_with (first
      | (refine ⟨trivial, ?_⟩; gi_at_call 18; refine (CallsIn.inRound y (callsIn_wide.2 HS1.out)).mono ?_; rintro e w' ⟨rfl, q1, rfl⟩; clear HS1)
      | (refine ⟨trivial, ?_⟩; gi_at_call 18; refine (CallsIn.inRound y (callsIn_wide.2 (HS2.out _))).mono ?_; rintro e w' ⟨rfl, q2, rfl⟩; clear HS2))
    gi_loopw [42] (fun v wr => ∃ k : Nat, k ≤ xk.length ∧ v = .int .i64 k ∧ Hid (RangedB w W (some ad) l.length d pre.length sp xA xB xk.length xv.length S wr)) (fun i _ => xk.length - (intOf i).toNat)
    case atStart => exact ⟨0, Nat.zero_le _, rfl, Lib.hid (HB0.out _)⟩
    case round =>
      obtain ⟨k, hk, rfl, hB⟩ := hrel
      by_cases hlt2 : k < xk.length
      · obtain ⟨g, eA, hs, hh⟩ := hB.out.cA (by omega)
        obtain ⟨⟨i, hc⟩, hf⟩ := hh k hlt2
        obtain ⟨ag, eag⟩ : ∃ ag : Addr, ag = ⟨g, 0, none⟩ := ⟨_, rfl⟩
        have HST := Lib.hid (show ∀ i', RangedB w W (some ad) l.length d pre.length sp xA xB xk.length xv.length S (wr.setCell (ag.add k) (.int .u8 i')) from fun i' => by rw [eag, add_zero_]; exact RangedB.store hB.out HSB.out hs hc)
        rw [← add_zero_, ← eag] at hc hf
        rw [← eag] at eA
        clear hB hh hs eag
        subst eA
        gi_wp2
        go_roundw
        case rel => exact ⟨k + 1, by omega, by go_num, Lib.hid (HST.out _)⟩
        case measure => simp [intOf]; omega
      · obtain rfl : k = xk.length := by omega
        gi_wp2
        gi_loopw [56] (fun v wr => ∃ k : Nat, k ≤ xv.length ∧ v = .int .i64 k ∧ Hid (RangedB w W (some ad) l.length d pre.length sp xA xB xk.length xv.length S wr)) (fun i _ => xv.length - (intOf i).toNat)
        case atStart => exact ⟨0, Nat.zero_le _, rfl, hB⟩
        case round =>
          obtain ⟨k, hk, rfl, hB⟩ := hrel
          by_cases hlt2 : k < xv.length
          · obtain ⟨g, eA, hs, hh⟩ := hB.out.cB (by omega)
            obtain ⟨⟨i, hc⟩, hf⟩ := hh k hlt2
            obtain ⟨ag, eag⟩ : ∃ ag : Addr, ag = ⟨g, 0, none⟩ := ⟨_, rfl⟩
            have HST := Lib.hid (show ∀ i', RangedB w W (some ad) l.length d pre.length sp xA xB xk.length xv.length S (wr.setCell (ag.add k) (.int .u8 i')) from fun i' => by rw [eag, add_zero_]; exact RangedB.store hB.out HSB.out hs hc)
            rw [← add_zero_, ← eag] at hc hf
            rw [← eag] at eA
            clear hB hh hs eag
            subst eA
            gi_wp2
            go_roundw
            case rel => exact ⟨k + 1, by omega, by go_num, Lib.hid (HST.out _)⟩
            case measure => simp [intOf]; omega
          · obtain rfl : k = xv.length := by omega
            have c5 := hB.out.i.b5.cell 0
            have f5 := hB.out.i.b5.frozen 0
            simp only [List.getElem?_toArray, List.getElem?_cons_zero] at c5
            gi_wp2
            have kk : Keep (fun b => b = w.heap.size + 1) wr (wr.setCell ⟨w.heap.size + 1, 0, none⟩ (.int .i64 (pre.length + 1))) := (Keep.refl (fun b => b = w.heap.size + 1) wr).setCell (p := ⟨w.heap.size + 1, 0, none⟩) (.inl rfl) _
            refine ⟨hB.out.kW.setCell (p := ⟨w.heap.size + 1, 0, none⟩) (.inl (.inl (by simp <;> omega))) _, hB.out.i.k.trans kk (fun b e => .inr (by have : b = w.heap.size + 1 := e; omega)), hB.out.i.b3.far (by simp) _, ?_, hB.out.i.b6.far (by simp) _⟩
            have := hB.out.i.b5.set_ 0 (.int .i64 (pre.length + 1))
            simpa using this
end Go.Proofs.Ytdmckjojeddaaaa
