/- Maps whose bytes lie outside of some blocks: Put and Drop keep that, and such blocks may be written. Conditions: each names its own. -/
import Derived.Test.YtdmckjojeddaaaaD1
import Derived.Test.YtdmckjojeddaaaaP6
namespace Go.Proofs.Ytdmckjojeddaaaa
open Go.RowKit Go.Proofs.YtdmckjojeddaaaaKit Go.Proofs.YtdmckjojeddaaaaPlain

/-- A map lies in memory, and its bytes lie outside of some blocks. -/
def MStC (Bad : Nat → Prop) (base : Nat) (w : World) (mb : Nat) (seed : Int) (l : PairL) (F : List Nat) : Prop :=
  ∃ t, MObj base w mb seed t ∧ WF seed t ∧ t.toList = l ∧ F = mb :: t.blocks ∧ Clean Bad w t
theorem reads_stay {S : Nat → Prop} {w w' : World} {base e size n : Nat} {A : Option Addr} {xs : List Value} (h : Reads base w e size A n xs) (hk : Keep S w w') (hn : 0 < n → ∀ ad, A = some ad → ¬ S ad.block) : Reads base w' e size A n xs :=
  ⟨h.1, fun h0 => by
    obtain ⟨ad, e1, hi, hc⟩ := h.2 h0
    have hs := hn h0 ad e1
    exact ⟨ad, e1, hi.same (hk.block _ hi.lt hs) hk.size, fun j u hu => (hk.cell (p := ad.add j) (by rw [block_of_add]; exact hi.lt) (by rw [block_of_add]; exact hs)).trans (hc j u hu)⟩⟩
theorem node_stay {S : Nat → Prop} {base : Nat} {w w' : World} {seed : Int} {b : Nat} {k v : List UInt8} {lp rp : Option Addr} {sz dg : Int} (h : Node base w seed b k v lp rp sz dg) (hk : Keep S w w') (hb : ¬ S b)
    (hc : ∀ i, i ≤ 1 → ∀ A n c, 0 < n → w.cell? ⟨b, i, none⟩ = some (.slice A n c) → ∀ ad, A = some ad → ¬ S ad.block) : Node base w' seed b k v lp rp sz dg := by
  obtain ⟨h1, h2, A, c, B, d, hB, hA, hV⟩ := h
  exact ⟨h1, h2, A, c, B, d, hB.keep hk hb, reads_stay hA hk (fun h0 ad e => hc 0 (by omega) _ _ _ h0 (hB.cell 0) ad e), reads_stay hV hk (fun h0 ad e => hc 1 (by omega) _ _ _ h0 (hB.cell 1) ad e)⟩
theorem rep_stay {S Bad : Nat → Prop} {base : Nat} {w w' : World} {seed : Int} : ∀ {t : AT}, Rep base w seed t → Keep S w w' → (∀ b ∈ t.blocks, ¬ S b) → Clean Bad w t → (∀ b, S b → Bad b) → Rep base w' seed t
  | .nil, _, _, _, _, _ => trivial
  | .node b k v l r, h, hk, hb, hc, hs => by
    refine ⟨node_stay h.1 hk (hb b List.mem_cons_self) (fun i hi A n c hn hcell ad e hS => hc b List.mem_cons_self i hi A n c hn hcell ad e (hs _ hS)), rep_stay h.2.1 hk (fun x hx => hb x (List.mem_cons_of_mem _ (List.mem_append_left _ hx))) (hc.sub fun x hx => List.mem_cons_of_mem _ (List.mem_append_left _ hx)) hs, rep_stay h.2.2 hk (fun x hx => hb x (List.mem_cons_of_mem _ (List.mem_append_right _ hx))) (hc.sub fun x hx => List.mem_cons_of_mem _ (List.mem_append_right _ hx)) hs⟩
section
variable {Bad Bad' S : Nat → Prop} {base : Nat} {w w' : World} {mb : Nat} {seed : Int} {l : PairL} {F : List Nat}
theorem MStC.mst (h : MStC Bad base w mb seed l F) : MSt base w mb seed l F := by
  obtain ⟨t, h1, h2, h3, h4, _⟩ := h
  exact ⟨t, h1, h2, h3, h4⟩
theorem MStC.weak (h : MStC Bad base w mb seed l F) (hb : ∀ b, Bad' b → Bad b) : MStC Bad' base w mb seed l F := by
  obtain ⟨t, h1, h2, h3, h4, h5⟩ := h
  exact ⟨t, h1, h2, h3, h4, fun b hb' i hi A n c hn hc ad e hbad => h5 b hb' i hi A n c hn hc ad e (hb _ hbad)⟩
theorem MStC.new_ (h : MStC Bad base w mb seed l F) (hk : Keep No w w') : MStC Bad base w' mb seed l F := by
  obtain ⟨t, h1, h2, h3, h4, h5⟩ := h
  exact ⟨t, h1.new_ hk, h2, h3, h4, h5.low (Low.no hk) (fun b hb => h1.rep.lt hb)⟩
/-- Other blocks than nodes may be written, where they are none of the map's bytes. -/
theorem MStC.spoil (h : MStC Bad base w mb seed l F) (hk : Keep S w w') (hs : ∀ b, S b → Bad b) (ht : ∀ b, S b → ¬ Mut base w b) : MStC Bad base w' mb seed l F := by
  obtain ⟨t, h1, h2, h3, h4, h5⟩ := h
  have hb : ∀ b ∈ t.blocks, ¬ S b := fun b hb hS => ht b hS (h1.rep.mut b hb)
  refine ⟨t, ⟨h1.has.keep hk (fun hS => ht _ hS h1.has.mut), rep_stay h1.rep hk hb h5 hs, h1.nodup⟩, h2, h3, h4, ?_⟩
  intro b hbm i hi A n c hn hc
  have := hk.cell (p := ⟨b, i, none⟩) (h1.rep.lt hbm) (hb b hbm)
  exact h5 b hbm i hi A n c hn (this.symm.trans hc)
theorem node_lt {k v : List UInt8} {lp rp : Option Addr} {sz dg : Int} {b : Nat} (h : Node base w seed b k v lp rp sz dg) : ∀ i, i ≤ 1 → ∀ A n c, 0 < n → w.cell? ⟨b, i, none⟩ = some (.slice A n c) → ∀ ad, A = some ad → ad.block < w.heap.size := by
  obtain ⟨A, c, B, d, hA, hB, c0, c1, _⟩ := h.cells
  intro i hi A' n c' hn hc ad e
  rcases (by omega : i = 0 ∨ i = 1) with rfl | rfl
  · rw [c0] at hc
    simp only [Option.some.injEq, Value.slice.injEq] at hc
    obtain ⟨rfl, rfl, _⟩ := hc
    obtain ⟨ad', e', hi', _⟩ := hA.2 hn
    rw [e'] at e; injection e with e; subst e
    exact hi'.lt
  · rw [c1] at hc
    simp only [Option.some.injEq, Value.slice.injEq] at hc
    obtain ⟨rfl, rfl, _⟩ := hc
    obtain ⟨ad', e', hi', _⟩ := hB.2 hn
    rw [e'] at e; injection e with e; subst e
    exact hi'.lt
theorem rep_clean : ∀ {t : AT}, Rep base w seed t → (∀ b, Bad b → w.heap.size ≤ b) → Clean Bad w t
  | .nil, _, _ => fun b hb => by cases hb
  | .node b k v l r, h, hb => fun x hx => by
    rcases List.mem_cons.1 hx with rfl | hx
    · exact fun i hi A n c hn hc ad e hbad => by have := node_lt h.1 i hi A n c hn hc ad e; have := hb _ hbad; omega
    · rcases List.mem_append.1 hx with hx | hx
      · exact rep_clean h.2.1 hb x hx
      · exact rep_clean h.2.2 hb x hx
/-- What comes later is none of a map's bytes. -/
theorem MSt.clean (h : MSt base w mb seed l F) (hb : ∀ b, Bad b → w.heap.size ≤ b) : MStC Bad base w mb seed l F := by
  obtain ⟨t, h1, h2, h3, h4⟩ := h
  exact ⟨t, h1, h2, h3, h4, rep_clean h1.rep hb⟩
end
/-- What a change of such a map leaves. -/
def ChangedC (Bad : Nat → Prop) (base : Nat) (w : World) (mb : Nat) (seed : Int) (l : PairL) (F : List Nat) (w' : World) : Prop :=
  ∃ F', MStC Bad base w' mb seed l F' ∧ Keep (In F) w w' ∧ ∀ x ∈ F', x ∈ F ∨ w.heap.size ≤ x
theorem MPut_clean {Bad : Nat → Prop} {base : Nat} {w : World} {seed : Int} {mb : Nat} {l : PairL} {F : List Nat} {A B : Option Addr} {n c m d : Nat} {key value : List UInt8} (h : MStC Bad base w mb seed l F) (hk : Bytes base w A n key) (hv : Bytes base w B m value)
    (hok : keyOk key value) (hsz : l.length < 100000) (hbase : base ≤ w.heap.size) (hbad : ∀ x, Bad x → x < w.heap.size) :
    Calls Try.prog 43 #[.pointer (some ⟨mb, 0, none⟩), .slice A n c, .slice B m d] w fun e w' =>
      e = .returned (.int .i64 0) ∧ ChangedC Bad base w mb seed (putL l key value) F w' := by
  obtain ⟨t, h1, h2, h3, rfl, h5⟩ := h
  refine (Put_low h1 hk hv hok (by rw [← toList_length, h3]; exact hsz) hbase).mono ?_
  rintro e w' ⟨nb, hnb, rfl, hm, hkp, hcl⟩
  refine ⟨rfl, _, ⟨_, hm, put_wf h2, by rw [put_list h2.sorted h2.heap, h3], rfl, hcl Bad hbad h5⟩, hkp, fun x hx => ?_⟩
  rcases List.mem_cons.1 hx with rfl | hx
  · exact .inl List.mem_cons_self
  · rcases put_mem hx with rfl | hx
    · exact .inr hnb
    · exact .inl (List.mem_cons_of_mem _ hx)

set_option maxHeartbeats 1000000 in
set_option maxRecDepth 100000 in
theorem mdrop_clean {Bad : Nat → Prop} {base : Nat} {w : World} {seed : Int} {mb : Nat} {l : PairL} {F : List Nat} {A : Option Addr} {n c : Nat} {key : List UInt8} (h : MStC Bad base w mb seed l F) (hk : Bytes base w A n key) (hsz : l.length ≤ 900000) (hh : hasL key l = true) :
    Calls Try.prog 44 #[.pointer (some ⟨mb, 0, none⟩), .slice A n c] w fun e w' => e = .returned (.int .i64 0) ∧ ChangedC Bad base w mb seed (dropL l key) F w' := by
  obtain ⟨t, hO, hwf, rfl, rfl, hcl⟩ := h
  rw [toList_length] at hsz
  have HR := Lib.hid (real_any hO.has)
  have HF := Lib.hid (find_any (c := c) hO.has hO.rep hk)
  rcases find_has (key := key) hwf.sorted with ⟨h1, h2⟩ | ⟨b, v, lt, rt, h1, h2, _⟩
  · rw [hh] at h2; cases h2
  · have HD := Lib.hid (drop_low (base := base) (seed := seed) (mb := mb) (root := t.ptr) (A := A) (n := n) (c := c) (key := key) t w hO.has hO.rep hO.nodup hk (by rw [h1]; simp) (by omega))
    rw [h1] at HF
    have HE := Lib.hid (show _ ∧ _ ∧ _ ∧ _ from ⟨hO, drop_wf (key := key) hwf, drop_list (seed := seed) (key := key) hwf.sorted, hcl⟩)
    obtain ⟨_, _, m2⟩ := hO.has.cells
    clear hO hwf hk h1 h2 hh hcl
    go_enter Try.func44, Try.ntmps44
    go_wp2_with (first
      | (go_at_call 64; refine HR.out.mono ?_; rintro e w' ⟨rfl, rfl⟩)
      | (go_at_call 82; refine HF.out.mono ?_; rintro e w' ⟨rfl, rfl, _⟩; rw [ptr_node]))
    refine HD.out.mono ?_
    rintro e w3 ⟨rfl, hr3, hk3, hl3⟩
    have hO := HE.out.1
    have hmt : ∀ x, In t.blocks x → Mut base w x := fun x hx => hO.rep.mut x hx
    have M3 := hO.has.keep hk3 (hO.has.ne hO.rep)
    have f2 := M3.2.frozen 2
    have g2 := M3.cells.2.2
    have H3 := Lib.hid (show _ ∧ _ ∧ _ ∧ _ from ⟨M3, hr3, hk3, hl3⟩)
    clear HD M3 hr3 hk3 hmt hO m2 hl3
    go_wp2
    go_ret
    obtain ⟨M3, hr3, hk3, hl3⟩ := H3.out
    have S4 : Keep (Only mb) w3 (w3.setCell ⟨mb, 2, none⟩ (.pointer (t.drop seed key).ptr)) := (Keep.refl (Only mb) w3).setCell (p := ⟨mb, 2, none⟩) (.inl rfl) _
    refine ⟨rfl, mb :: (t.drop seed key).blocks, ⟨t.drop seed key, ⟨⟨M3.1, M3.2.set_ 2 _⟩, hr3.keep S4 (fun x e => e ▸ M3.mut) (fun x hx e => ?_), drop_nodup HE.out.1.nodup⟩, HE.out.2.1, HE.out.2.2.1, rfl, ?_⟩, ?_, fun x hx => ?_⟩
    · subst e
      exact M3.ne hr3 hx
    · exact (HE.out.2.2.2.sub (u := t.drop seed key) (fun x hx => drop_mem hx)).low (hl3.set mb 2 (by omega) _) (fun x hx => HE.out.1.rep.lt (drop_mem hx))
    · exact (hk3.mono (S' := In (mb :: t.blocks)) (fun x h => List.mem_cons_of_mem _ h)).trans S4 (fun x e => .inl (e ▸ List.mem_cons_self))
    · rcases List.mem_cons.1 hx with rfl | hx
      · exact .inl List.mem_cons_self
      · exact .inl (List.mem_cons_of_mem _ (drop_mem hx))
end Go.Proofs.Ytdmckjojeddaaaa
