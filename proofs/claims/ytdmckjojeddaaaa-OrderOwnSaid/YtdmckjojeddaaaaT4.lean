/- Contract of order's merge. Conditions: it names its own. -/
import Derived.Test.YtdmckjojeddaaaaT2
namespace Go.Proofs.Ytdmckjojeddaaaa
open Go.RowKit Go.Proofs.YtdmckjojeddaaaaKit Go.Proofs.YtdmckjojeddaaaaPlain

def AT.mergeIn (ab : List UInt8 → List UInt8 → Bool) (ba : Nat) (ka va : List UInt8) (la ra : AT) (f : AT → AT) : AT → AT
  | .nil => .node ba ka va la ra
  | .node bb kb vb lb rb => if ab ka kb then .node ba ka va la (f (.node bb kb vb lb rb)) else .node bb kb vb (mergeIn ab ba ka va la ra f lb) rb
def AT.mergeWith (ab : List UInt8 → List UInt8 → Bool) : AT → AT → AT
  | .nil => fun b => b
  | .node ba ka va la ra => AT.mergeIn ab ba ka va la ra (mergeWith ab ra)
def AT.merge (seed : Int) (a b : AT) : AT := AT.mergeWith (aboveB seed) a b

theorem merge_nil (seed : Int) (b : AT) : AT.merge seed .nil b = b := rfl
theorem merge_nil' (seed : Int) (a : AT) : AT.merge seed a .nil = a := by cases a <;> rfl
theorem merge_node (seed : Int) (ba bb : Nat) (ka va kb vb : List UInt8) (la ra lb rb : AT) : AT.merge seed (.node ba ka va la ra) (.node bb kb vb lb rb) =
    if aboveB seed ka kb then .node ba ka va la (AT.merge seed ra (.node bb kb vb lb rb)) else .node bb kb vb (AT.merge seed (.node ba ka va la ra) lb) rb := rfl
theorem merge_perm (seed : Int) : ∀ (N : Nat) (a b : AT), a.size + b.size ≤ N → (AT.merge seed a b).blocks.Perm (a.blocks ++ b.blocks) ∧ (AT.merge seed a b).size = a.size + b.size := by
  intro N
  induction N with
  | zero =>
    intro a b h
    cases a with
    | nil => rw [merge_nil]; simp [AT.blocks, AT.size]
    | node => simp [AT.size] at h
  | succ N ih =>
    intro a b h
    cases a with
    | nil => rw [merge_nil]; simp [AT.blocks, AT.size]
    | node ba ka va la ra =>
      cases b with
      | nil => rw [merge_nil']; simp [AT.blocks, AT.size]
      | node bb kb vb lb rb =>
        rw [merge_node]
        simp only [AT.size] at h
        split
        · obtain ⟨h1, h2⟩ := ih ra (.node bb kb vb lb rb) (by simp only [AT.size]; omega)
          refine ⟨?_, by simp only [AT.size] at *; omega⟩
          simp only [AT.blocks] at *
          simp only [List.cons_append, List.append_assoc]
          exact List.Perm.cons _ (List.Perm.append_left _ h1)
        · obtain ⟨h1, h2⟩ := ih (.node ba ka va la ra) lb (by simp only [AT.size]; omega)
          refine ⟨?_, by simp only [AT.size] at *; omega⟩
          simp only [AT.blocks] at *
          refine (List.Perm.cons _ (List.Perm.append_right _ h1)).trans ?_
          rw [List.append_assoc]
          exact List.perm_middle.symm

set_option maxHeartbeats 4000000 in
set_option maxRecDepth 100000 in
theorem merge_low {base : Nat} {seed : Int} {mb : Nat} {root : Option Addr} : ∀ (N : Nat) (a b : AT) (w : World), a.size + b.size ≤ N → MapHas base w mb seed root → Rep base w seed a → Rep base w seed b → a.blocks.Nodup → b.blocks.Nodup → (∀ x ∈ a.blocks, x ∉ b.blocks) → a.size + b.size < 1000000000 →
    Calls Try.prog 87 #[.pointer (some ⟨mb, 0, none⟩), .pointer a.ptr, .pointer b.ptr] w fun e w' =>
      e = .returned (.pointer (AT.merge seed a b).ptr) ∧ Rep base w' seed (AT.merge seed a b) ∧ Keep (In (a.blocks ++ b.blocks)) w w' ∧ Low w w' := by
  intro N
  induction N with
  | zero =>
    intro a b w h _ _ hb _ _ _ _
    cases a with
    | node => simp [AT.size] at h
    | nil =>
      rw [ptr_nil, merge_nil]
      go_enter Try.func87, Try.ntmps87
      go_wp2
      go_ret
      exact ⟨rfl, hb, Keep.refl _ _, Low.refl _⟩
  | succ N ih =>
    intro a b w h hm hra hrb hna hnb hdis hsz
    cases a with
    | nil =>
      rw [ptr_nil, merge_nil]
      clear ih
      go_enter Try.func87, Try.ntmps87
      go_wp2
      go_ret
      exact ⟨rfl, hrb, Keep.refl _ _, Low.refl _⟩
    | node ba ka va la ra =>
      cases b with
      | nil =>
        rw [ptr_node, ptr_nil, merge_nil']
        clear ih
        go_enter Try.func87, Try.ntmps87
        go_wp2
        go_ret
        exact ⟨rfl, hra, Keep.refl _ _, Low.refl _⟩
      | node bb kb vb lb rb =>
        have hab := above_any hra.root hrb.root
        have hpm := (merge_perm seed _ (.node ba ka va la ra) (.node bb kb vb lb rb) (Nat.le_refl _))
        obtain ⟨n1, n2, n3, n4, n5⟩ := nodup_node hna
        obtain ⟨m1, m2, m3, m4, m5⟩ := nodup_node hnb
        have sub1 : ∀ x, x ∈ ra.blocks → x ∈ (AT.node ba ka va la ra).blocks := fun x hx => List.mem_cons_of_mem _ (List.mem_append_right _ hx)
        have sub2 : ∀ x, x ∈ la.blocks → x ∈ (AT.node ba ka va la ra).blocks := fun x hx => List.mem_cons_of_mem _ (List.mem_append_left _ hx)
        have sub3 : ∀ x, x ∈ rb.blocks → x ∈ (AT.node bb kb vb lb rb).blocks := fun x hx => List.mem_cons_of_mem _ (List.mem_append_right _ hx)
        have sub4 : ∀ x, x ∈ lb.blocks → x ∈ (AT.node bb kb vb lb rb).blocks := fun x hx => List.mem_cons_of_mem _ (List.mem_append_left _ hx)
        have sub5 : ba ∈ (AT.node ba ka va la ra).blocks := List.mem_cons_self
        have sub6 : bb ∈ (AT.node bb kb vb lb rb).blocks := List.mem_cons_self
        cases hB : aboveB seed ka kb with
        | true =>
          rw [hB] at hab
          have e0 : AT.merge seed (.node ba ka va la ra) (.node bb kb vb lb rb) = .node ba ka va la (AT.merge seed ra (.node bb kb vb lb rb)) := by rw [merge_node, hB]; rfl
          rw [e0] at hpm
          rw [e0, ptr_node]
          have HI := Lib.hid (fun (w : World) hm hr hb => ih ra (.node bb kb vb lb rb) w (by simp only [AT.size] at *; omega) hm hr hb n4 hnb (fun x hx => hdis x (sub1 x hx)) (by simp only [AT.size] at *; omega))
          have hq := merge_perm seed _ ra (.node bb kb vb lb rb) (Nat.le_refl _)
          have hsz2 : la.size + (AT.merge seed ra (.node bb kb vb lb rb)).size < 1000000000 := by rw [hq.2]; simp only [AT.size] at *; omega
          have HQ := Lib.hid (fun x => (hq.1.mem_iff (a := x)))
          generalize AT.merge seed ra (.node bb kb vb lb rb) = q at *
          have hbq : ba ∉ q.blocks := fun hx => by
            rcases List.mem_append.1 ((HQ.out ba).1 hx) with h1 | h1
            · exact n2 h1
            · exact hdis ba sub5 h1
          have HT := Lib.hid (show _ ∧ _ ∧ _ from ⟨hm, hra, hrb⟩)
          have HAB := Lib.hid hab
          obtain ⟨_, _, _, _, _, _, _, _, _, _, e4, _⟩ := hra.root.cells
          clear ih hm hra hrb hab e0 hpm hq hB
          generalize hbp : (AT.node bb kb vb lb rb).ptr = bp at *
          have hbp2 : bp = some ⟨bb, 0, none⟩ := hbp.symm
          subst hbp2
          clear hbp
          go_enter Try.func87, Try.ntmps87
          go_wp2_with fail
          refine HAB.out.mono ?_
          rintro e w1 ⟨rfl, dq, rfl⟩
          have hd := (Keep.refl No w).drewN dq
          have hra1 := HT.out.2.1.new_ hd
          have hrb1 := HT.out.2.2.new_ hd
          have hm1 := HT.out.1.keep hd (fun x => x)
          have H1 := Lib.hid (show _ ∧ _ ∧ _ from ⟨hm1, hra1, hrb1⟩)
          clear hra1 hrb1 hm1 HAB HT hd
          go_wp2_with fail
          refine (HI.out _ H1.out.1 H1.out.2.1.2.2 H1.out.2.2).mono ?_
          rintro e w2 ⟨rfl, hqr, hk2, hl2⟩
          have HLo1 := Lib.hid ((Low.no ((Keep.refl No w).drewN dq)).trans hl2)
          clear hl2
          have hmut : ∀ x, In (ra.blocks ++ (AT.node bb kb vb lb rb).blocks) x → Mut base (w.drewN dq) x := fun x hx => (List.mem_append.1 hx).elim (fun h => H1.out.2.1.2.2.mut x h) (fun h => H1.out.2.2.mut x h)
          have hnot : ∀ x, (x = ba ∨ x ∈ la.blocks) → ¬ In (ra.blocks ++ (AT.node bb kb vb lb rb).blocks) x := fun x hx hy => by
            rcases List.mem_append.1 hy with h1 | h1
            · rcases hx with rfl | hx
              · exact n2 h1
              · exact n5 x hx h1
            · rcases hx with rfl | hx
              · exact hdis _ sub5 h1
              · exact hdis _ (sub2 x hx) h1
          have N2 := H1.out.2.1.root.keep hk2 hmut (hnot ba (.inl rfl))
          have L2 := H1.out.2.1.2.1.keep hk2 hmut (fun x hx => hnot x (.inr hx))
          have M2 := H1.out.1.keep hk2 (fun hx => (List.mem_append.1 hx).elim (H1.out.1.ne H1.out.2.1.2.2) (H1.out.1.ne H1.out.2.2))
          obtain ⟨_, _, _, _, _, _, _, _, _, _, g4, _⟩ := N2.cells
          have f4 := N2.frozen 4
          have H2 := Lib.hid (show _ ∧ _ ∧ _ ∧ _ ∧ _ from ⟨N2, L2, M2, hqr, hk2⟩)
          clear N2 L2 M2 hqr hk2 hmut hnot H1 HI
          go_wp2_with fail
          obtain ⟨N2, L2, M2, hqr, hk2⟩ := H2.out
          have hone : ∀ x, Only ba x → Mut base w2 x := fun x e => e ▸ N2.mut
          have S2 : Keep (Only ba) w2 (w2.setCell ⟨ba, 4, none⟩ (.pointer q.ptr)) := (Keep.refl (Only ba) w2).setCell (p := ⟨ba, 4, none⟩) (.inl rfl) _
          refine (fresh_low (M2.keep S2 (M2.ne_node N2)) (N2.set4 q.ptr) (L2.keep S2 hone (fun x hx e => n1 (e ▸ hx))) (hqr.keep S2 hone (fun x hx e => hbq (e ▸ hx))) n1 hbq hsz2).mono ?_
          rintro e w3 ⟨rfl, hrep, hk3, hl3⟩
          have HLo3 := Lib.hid ((HLo1.out.set ba 4 (by omega) _).trans hl3)
          clear hl3 HLo1
          have hk := (hk2.of_drewN.mono (S' := In ((AT.node ba ka va la ra).blocks ++ (AT.node bb kb vb lb rb).blocks)) (fun x hx => (List.mem_append.1 hx).elim (fun h => List.mem_append_left _ (sub1 x h)) (fun h => List.mem_append_right _ h))).trans (S2.trans hk3 (fun x e => .inl e)) (fun x e => .inl (by subst e; exact List.mem_append_left _ sub5))
          have HF := Lib.hid (show _ ∧ _ from ⟨hrep, hk⟩)
          clear hrep hk hk3 S2 hone N2 L2 M2 hqr hk2 H2
          go_wp2
          go_ret
          exact ⟨rfl, HF.out.1, HF.out.2, HLo3.out⟩
        | false =>
          rw [hB] at hab
          have e0 : AT.merge seed (.node ba ka va la ra) (.node bb kb vb lb rb) = .node bb kb vb (AT.merge seed (.node ba ka va la ra) lb) rb := by rw [merge_node, hB]; rfl
          rw [e0] at hpm
          rw [e0, ptr_node]
          have HI := Lib.hid (fun (w : World) hm hr hb => ih (.node ba ka va la ra) lb w (by simp only [AT.size] at *; omega) hm hr hb hna m3 (fun x hx hy => hdis x hx (sub4 x hy)) (by simp only [AT.size] at *; omega))
          have hq := merge_perm seed _ (.node ba ka va la ra) lb (Nat.le_refl _)
          have hsz2 : (AT.merge seed (.node ba ka va la ra) lb).size + rb.size < 1000000000 := by rw [hq.2]; simp only [AT.size] at *; omega
          have HQ := Lib.hid (fun x => (hq.1.mem_iff (a := x)))
          generalize AT.merge seed (.node ba ka va la ra) lb = q at *
          have hbq : bb ∉ q.blocks := fun hx => by
            rcases List.mem_append.1 ((HQ.out bb).1 hx) with h1 | h1
            · exact hdis bb h1 sub6
            · exact m1 h1
          have HT := Lib.hid (show _ ∧ _ ∧ _ from ⟨hm, hra, hrb⟩)
          have HAB := Lib.hid hab
          obtain ⟨_, _, _, _, _, _, _, _, _, e3, _, _⟩ := hrb.root.cells
          clear ih hm hra hrb hab e0 hpm hq hB
          generalize hbp : (AT.node bb kb vb lb rb).ptr = bp at *
          have hbp2 : bp = some ⟨bb, 0, none⟩ := hbp.symm
          subst hbp2
          clear hbp
          go_enter Try.func87, Try.ntmps87
          go_wp2_with fail
          refine HAB.out.mono ?_
          rintro e w1 ⟨rfl, dq, rfl⟩
          have hd := (Keep.refl No w).drewN dq
          have hra1 := HT.out.2.1.new_ hd
          have hrb1 := HT.out.2.2.new_ hd
          have hm1 := HT.out.1.keep hd (fun x => x)
          have H1 := Lib.hid (show _ ∧ _ ∧ _ from ⟨hm1, hra1, hrb1⟩)
          clear hra1 hrb1 hm1 HAB HT hd
          go_wp2_with fail
          refine (HI.out _ H1.out.1 H1.out.2.1 H1.out.2.2.2.1).mono ?_
          rintro e w2 ⟨rfl, hqr, hk2, hl2⟩
          have HLo1 := Lib.hid ((Low.no ((Keep.refl No w).drewN dq)).trans hl2)
          clear hl2
          have hmut : ∀ x, In ((AT.node ba ka va la ra).blocks ++ lb.blocks) x → Mut base (w.drewN dq) x := fun x hx => (List.mem_append.1 hx).elim (fun h => H1.out.2.1.mut x h) (fun h => H1.out.2.2.2.1.mut x h)
          have hnot : ∀ x, (x = bb ∨ x ∈ rb.blocks) → ¬ In ((AT.node ba ka va la ra).blocks ++ lb.blocks) x := fun x hx hy => by
            rcases List.mem_append.1 hy with h1 | h1
            · rcases hx with rfl | hx
              · exact hdis _ h1 sub6
              · exact hdis _ h1 (sub3 x hx)
            · rcases hx with rfl | hx
              · exact m1 h1
              · exact m5 x h1 hx
          have N2 := H1.out.2.2.root.keep hk2 hmut (hnot bb (.inl rfl))
          have R2 := H1.out.2.2.2.2.keep hk2 hmut (fun x hx => hnot x (.inr hx))
          have M2 := H1.out.1.keep hk2 (fun hx => (List.mem_append.1 hx).elim (H1.out.1.ne H1.out.2.1) (H1.out.1.ne H1.out.2.2.2.1))
          obtain ⟨_, _, _, _, _, _, _, _, _, g3, _, _⟩ := N2.cells
          have f3 := N2.frozen 3
          have H2 := Lib.hid (show _ ∧ _ ∧ _ ∧ _ ∧ _ from ⟨N2, R2, M2, hqr, hk2⟩)
          clear N2 R2 M2 hqr hk2 hmut hnot H1 HI
          go_wp2_with fail
          obtain ⟨N2, R2, M2, hqr, hk2⟩ := H2.out
          have hone : ∀ x, Only bb x → Mut base w2 x := fun x e => e ▸ N2.mut
          have S2 : Keep (Only bb) w2 (w2.setCell ⟨bb, 3, none⟩ (.pointer q.ptr)) := (Keep.refl (Only bb) w2).setCell (p := ⟨bb, 3, none⟩) (.inl rfl) _
          refine (fresh_low (M2.keep S2 (M2.ne_node N2)) (N2.set3 q.ptr) (hqr.keep S2 hone (fun x hx e => hbq (e ▸ hx))) (R2.keep S2 hone (fun x hx e => m2 (e ▸ hx))) hbq m2 hsz2).mono ?_
          rintro e w3 ⟨rfl, hrep, hk3, hl3⟩
          have HLo3 := Lib.hid ((HLo1.out.set bb 3 (by omega) _).trans hl3)
          clear hl3 HLo1
          have hk := (hk2.of_drewN.mono (S' := In ((AT.node ba ka va la ra).blocks ++ (AT.node bb kb vb lb rb).blocks)) (fun x hx => (List.mem_append.1 hx).elim (fun h => List.mem_append_left _ h) (fun h => List.mem_append_right _ (sub4 x h)))).trans (S2.trans hk3 (fun x e => .inl e)) (fun x e => .inl (by subst e; exact List.mem_append_right _ sub6))
          have HF := Lib.hid (show _ ∧ _ from ⟨hrep, hk⟩)
          clear hrep hk hk3 S2 hone N2 R2 M2 hqr hk2 H2
          go_wp2
          go_ret
          exact ⟨rfl, HF.out.1, HF.out.2, HLo3.out⟩

theorem merge_any {base : Nat} {seed : Int} {mb : Nat} {root : Option Addr} : ∀ (N : Nat) (a b : AT) (w : World), a.size + b.size ≤ N → MapHas base w mb seed root → Rep base w seed a → Rep base w seed b → a.blocks.Nodup → b.blocks.Nodup → (∀ x ∈ a.blocks, x ∉ b.blocks) → a.size + b.size < 1000000000 →
    Calls Try.prog 87 #[.pointer (some ⟨mb, 0, none⟩), .pointer a.ptr, .pointer b.ptr] w fun e w' =>
      e = .returned (.pointer (AT.merge seed a b).ptr) ∧ Rep base w' seed (AT.merge seed a b) ∧ Keep (In (a.blocks ++ b.blocks)) w w' :=
  fun N a b w h1 h2 h3 h4 h5 h6 h7 h8 => (merge_low N a b w h1 h2 h3 h4 h5 h6 h7 h8).mono fun _ _ ⟨h1, h2, h3, _⟩ => ⟨h1, h2, h3⟩
end Go.Proofs.Ytdmckjojeddaaaa

namespace Go.Proofs.Ytdmckjojeddaaaa
open Go.RowKit Go.Proofs.YtdmckjojeddaaaaKit Go.Proofs.YtdmckjojeddaaaaPlain

def AT.put (seed : Int) (nb : Nat) (k v : List UInt8) : AT → AT
  | .nil => .node nb k v .nil .nil
  | .node b k' v' l r =>
    if k = k' then .node b k' v l r
    else if aboveB seed k k' then .node nb k v ((AT.node b k' v' l r).split k).1 ((AT.node b k' v' l r).split k).2
    else if Lt k k' then .node b k' v' (put seed nb k v l) r else .node b k' v' l (put seed nb k v r)

theorem put_blocks (seed : Int) (nb : Nat) (k v : List UInt8) (t : AT) : ((t.put seed nb k v).blocks.Perm t.blocks ∧ (t.put seed nb k v).size = t.size) ∨ ((t.put seed nb k v).blocks.Perm (nb :: t.blocks) ∧ (t.put seed nb k v).size = t.size + 1) := by
  induction t with
  | nil => exact .inr (by simp [AT.put, AT.blocks, AT.size])
  | node b k' v' l r ihl ihr =>
    rw [AT.put]
    split
    · exact .inl (by simp [AT.blocks, AT.size])
    · split
      · refine .inr ⟨?_, ?_⟩
        · have := split_perm k (.node b k' v' l r)
          generalize (AT.node b k' v' l r).split k = q at *
          simp only [AT.blocks] at *
          exact List.Perm.cons _ this
        · have := split_size k (.node b k' v' l r)
          generalize (AT.node b k' v' l r).split k = q at *
          simp only [AT.size] at *
          omega
      · split
        · rcases ihl with ⟨h1, h2⟩ | ⟨h1, h2⟩
          · refine .inl ⟨?_, by simp only [AT.size]; omega⟩
            simp only [AT.blocks]
            exact List.Perm.cons _ (List.Perm.append_right _ h1)
          · refine .inr ⟨?_, by simp only [AT.size]; omega⟩
            simp only [AT.blocks]
            exact (List.Perm.cons _ (List.Perm.append_right _ h1)).trans (List.Perm.swap _ _ _)
        · rcases ihr with ⟨h1, h2⟩ | ⟨h1, h2⟩
          · refine .inl ⟨?_, by simp only [AT.size]; omega⟩
            simp only [AT.blocks]
            exact List.Perm.cons _ (List.Perm.append_left _ h1)
          · refine .inr ⟨?_, by simp only [AT.size]; omega⟩
            simp only [AT.blocks]
            exact (List.Perm.cons _ ((List.Perm.append_left _ h1).trans List.perm_middle)).trans (List.Perm.swap _ _ _)
theorem put_mem {seed : Int} {nb : Nat} {k v : List UInt8} {t : AT} {x : Nat} (h : x ∈ (t.put seed nb k v).blocks) : x = nb ∨ x ∈ t.blocks := by
  rcases put_blocks seed nb k v t with ⟨h1, _⟩ | ⟨h1, _⟩
  · exact .inr (h1.mem_iff.1 h)
  · simpa using h1.mem_iff.1 h
theorem put_nodup {seed : Int} {nb : Nat} {k v : List UInt8} {t : AT} (h : t.blocks.Nodup) (hn : nb ∉ t.blocks) : (t.put seed nb k v).blocks.Nodup := by
  rcases put_blocks seed nb k v t with ⟨h1, _⟩ | ⟨h1, _⟩
  · exact h1.nodup_iff.2 h
  · exact h1.nodup_iff.2 (List.nodup_cons.2 ⟨hn, h⟩)
theorem put_size (seed : Int) (nb : Nat) (k v : List UInt8) (t : AT) : (t.put seed nb k v).size ≤ t.size + 1 := by rcases put_blocks seed nb k v t with ⟨_, h⟩ | ⟨_, h⟩ <;> omega

/-- The first two cells of what lay are as they were, but that a second one may be that of nb. -/
def LowP (nb : Nat) (w w' : World) : Prop := w.heap.size ≤ w'.heap.size ∧ ∀ b i, b < w.heap.size → i ≤ 1 → w'.cell? ⟨b, i, none⟩ = w.cell? ⟨b, i, none⟩ ∨ (i = 1 ∧ w'.cell? ⟨b, 1, none⟩ = w.cell? ⟨nb, 1, none⟩)
section
variable {nb : Nat} {w w1 w2 : World}
theorem LowP.low (h : Low w w1) : LowP nb w w1 := ⟨h.1, fun b i hb hi => .inl (h.2 b i hb hi)⟩
theorem LowP.trans (h : LowP nb w w1) (k : Low w1 w2) : LowP nb w w2 := ⟨Nat.le_trans h.1 k.1, fun b i hb hi => by
  rcases h.2 b i hb hi with e | ⟨rfl, e⟩
  · exact .inl ((k.2 b i (Nat.lt_of_lt_of_le hb h.1) hi).trans e)
  · exact .inr ⟨rfl, (k.2 b 1 (Nat.lt_of_lt_of_le hb h.1) hi).trans e⟩⟩
theorem LowP.pre (h : LowP nb w1 w2) (k : Low w w1) (hn : nb < w.heap.size) : LowP nb w w2 := ⟨Nat.le_trans k.1 h.1, fun b i hb hi => by
  rcases h.2 b i (Nat.lt_of_lt_of_le hb k.1) hi with e | ⟨rfl, e⟩
  · exact .inl (e.trans (k.2 b i hb hi))
  · exact .inr ⟨rfl, e.trans (k.2 nb 1 hn (Nat.le_refl _))⟩⟩
theorem LowP.setv {b : Nat} {v v0 : Value} (h : w.cell? ⟨nb, 1, none⟩ = some v) (h0 : w.cell? ⟨b, 1, none⟩ = some v0) : LowP nb w (w.setCell ⟨b, 1, none⟩ v) := ⟨by simp [World.setCell], fun b' i hb hi => by
  by_cases e : (⟨b, 1, none⟩ : Addr) = ⟨b', i, none⟩
  · injection e with e1 e2
    subst e1 e2
    exact .inr ⟨rfl, (World.cell?_setCell_same' _ _ _ (by rw [h0]; rfl)).trans h.symm⟩
  · exact .inl (World.cell?_setCell_other _ _ _ _ e)⟩
end

set_option maxHeartbeats 4000000 in
set_option maxRecDepth 100000 in
theorem put_low {base : Nat} {seed : Int} {mb nb : Nat} {root : Option Addr} {k v : List UInt8} (t : AT) : ∀ (w : World), MapHas base w mb seed root → Rep base w seed t → t.blocks.Nodup → Node base w seed nb k v none none 0 0 → nb ∉ t.blocks → t.size < 900000000 →
    Calls Try.prog 84 #[.pointer (some ⟨mb, 0, none⟩), .pointer t.ptr, .pointer (some ⟨nb, 0, none⟩)] w fun e w' =>
      e = .returned (.pointer (t.put seed nb k v).ptr) ∧ Rep base w' seed (t.put seed nb k v) ∧ Keep (In (nb :: t.blocks)) w w' ∧ LowP nb w w' := by
  induction t with
  | nil =>
    intro w hm _ _ hx _ _
    rw [ptr_nil]
    have HF := Lib.hid (fresh_low (l := .nil) (r := .nil) hm hx trivial trivial (by simp [AT.blocks]) (by simp [AT.blocks]) (by simp [AT.size]))
    clear hm hx
    go_enter Try.func84, Try.ntmps84
    go_wp2_with fail
    refine HF.out.mono ?_
    rintro e w1 ⟨rfl, hr, hk, hl⟩
    have H1 := Lib.hid (show _ ∧ _ ∧ _ from ⟨hr, hk.mono (S' := In [nb]) (fun x e => by simpa [In, Only] using e), LowP.low (nb := nb) hl⟩)
    clear hl
    clear hr hk HF
    go_wp2
    go_ret
    exact ⟨rfl, H1.out⟩
  | node b k' v' l r ihl ihr =>
    intro w hm ht hnd hx hnb hsz
    obtain ⟨n1, n2, n3, n4, n5⟩ := nodup_node hnd
    have hN := ht.root
    obtain ⟨A1, c1, B1, d1, hA, hB, e0, e1, e2, e3, e4, e5, e6⟩ := hN.cells
    obtain ⟨A2, c2, B2, d2, hA2, hB2, x0, x1, x2, x3, x4, x5, x6⟩ := hx.cells
    have hcmp := fun q => bcompare A2 A1 _ c2 _ c1 k k' (w.drewN q) (hA2.drewN q) (hA.drewN q)
    rw [ptr_node]
    have hnbs := hx.lt
    have hnbb : nb ≠ b := fun e => hnb (by rw [e]; simp [AT.blocks])
    have hnbl : nb ∉ l.blocks := fun e => hnb (by simp [AT.blocks, e])
    have hnbr : nb ∉ r.blocks := fun e => hnb (by simp [AT.blocks, e])
    have hszl : l.size < 900000000 := by simp only [AT.size] at hsz; omega
    have hszr : r.size < 900000000 := by simp only [AT.size] at hsz; omega
    have hszs : l.size + r.size < 900000000 := by simp only [AT.size] at hsz; omega
    by_cases hkk : k = k'
    · -- the key is there: the value turns
      have e9 : (AT.node b k' v' l r).put seed nb k v = .node b k' v l r := by rw [AT.put, if_pos hkk]
      rw [e9, ptr_node]
      rw [cb_eq.2 hkk] at hcmp
      have HC := Lib.hid hcmp
      have HT := Lib.hid (show _ ∧ _ ∧ _ ∧ _ from ⟨hm, ht, hx, hB2⟩)
      have f1 := hN.frozen 1
      clear hcmp hm ht hx hA hB hA2 hB2 hN e9 ihl ihr hkk e1 e2 e3 e4 e5 e6 x1 x2 x3 x4 x5 x6 hnd
      go_enter Try.func84, Try.ntmps84
      go_wp2_with fail
      go_quiet ((go_at_call 61; exact quiet_drawn (HC.out _)))
      obtain ⟨w1, hw1⟩ : ∃ x, x = w.drewN nq := ⟨_, rfl⟩
      rw [← hw1]
      have hd : Keep No w w1 := hw1 ▸ (Keep.refl No w).drewN nq
      have HD := Lib.hid hd
      have HT1 := Lib.hid (show _ ∧ _ ∧ _ from ⟨HT.out.1.keep hd (fun x => x), HT.out.2.1.new_ hd, HT.out.2.2.1.keep hd (fun _ x => x.elim) (fun x => x)⟩)
      clear HC HT hd hw1 e0 x0 f1
      obtain ⟨_, _, _, _, _, _, g0, g1, _⟩ := HT1.out.2.1.root.cells
      obtain ⟨_, _, B3, d3, _, hB3, _, y1, _⟩ := HT1.out.2.2.cells
      have f1 := HT1.out.2.1.root.frozen 1
      have HB3 := Lib.hid hB3
      clear g0 hB3
      go_wp2_with fail
      have hN := HT1.out.2.1.root
      have hone : ∀ x, Only b x → Mut base w1 x := fun x e => e ▸ hN.mut
      have S2 : Keep (Only b) w1 (w1.setCell ⟨b, 1, none⟩ (.slice B3 v.length d3)) := (Keep.refl (Only b) w1).setCell (p := ⟨b, 1, none⟩) (.inl rfl) _
      refine (fresh_low (HT1.out.1.keep S2 (HT1.out.1.ne_node hN)) (hN.set1 (d := d3) HB3.out HT1.out.2.2.2.1.2.2) (HT1.out.2.1.2.1.keep S2 hone (fun x hx e => n1 (e ▸ hx))) (HT1.out.2.1.2.2.keep S2 hone (fun x hx e => n2 (e ▸ hx))) n1 n2 (by omega)).mono ?_
      rintro e w3 ⟨rfl, hrep, hk3, hl3⟩
      have HLP := Lib.hid (((LowP.setv y1 g1).pre (Low.no HD.out) hnbs).trans hl3)
      clear hl3
      have hk := (HD.out.mono (S' := In (nb :: (AT.node b k' v' l r).blocks)) (fun _ x => x.elim)).trans (S2.trans hk3 (fun x e => .inl e)) (fun x e => .inl (by subst e; simp [In, AT.blocks]))
      have HF := Lib.hid (show _ ∧ _ from ⟨hrep, hk⟩)
      clear hrep hk hk3 S2 hone HB3 HT1 hN
      go_wp2
      go_ret
      exact ⟨rfl, HF.out.1, HF.out.2, HLP.out⟩
    · cases hab : aboveB seed k k' with
      | true =>
        -- it stands above: the node is parted below it
        have e9 : (AT.node b k' v' l r).put seed nb k v = .node nb k v ((AT.node b k' v' l r).split k).1 ((AT.node b k' v' l r).split k).2 := by rw [AT.put, if_neg hkk, hab]; rfl
        rw [e9, ptr_node]
        have hcz : (Lib.compareBytes k k' == 0) = false := by simp [cb_eq, hkk]
        generalize Lib.compareBytes k k' = z at *
        have HC := Lib.hid hcmp
        have HT := Lib.hid (show _ ∧ _ ∧ _ ∧ _ from ⟨hm, ht, hx, hA2⟩)
        have hps := Lib.hid (split_size k (.node b k' v' l r))
        have hp := Lib.hid (split_perm k (.node b k' v' l r))
        have HS := Lib.hid (fun (w1 : World) hm hr hk => split_low (base := base) (seed := seed) (mb := mb) (root := root) A2 k.length c2 k (.node b k' v' l r) w1 hm hr hnd hk (by omega))
        generalize (AT.node b k' v' l r).split k = q at *
        obtain ⟨lo, hi⟩ := q
        clear hcmp hm ht hx hA hB hA2 hB2 hN e9 ihl ihr hkk e1 e2 e3 e4 e5 e6 x1 x2 x3 x4 x5 x6
        go_enter Try.func84, Try.ntmps84
        go_wp2_with fail
        go_quiet ((go_at_call 61; exact quiet_drawn (HC.out _)))
        obtain ⟨w1, hw1⟩ : ∃ x, x = w.drewN nq := ⟨_, rfl⟩
        rw [← hw1]
        have hd : Keep No w w1 := hw1 ▸ (Keep.refl No w).drewN nq
        have HD := Lib.hid hd
        have hA3 := HT.out.2.2.2.new_ hd
        have x0w : w1.cell? ⟨nb, 0, none⟩ = some (.slice A2 k.length c2) := hw1 ▸ x0
        have HT1 := Lib.hid (show _ ∧ _ ∧ _ from ⟨HT.out.1.keep hd (fun x => x), HT.out.2.1.new_ hd, HT.out.2.2.1.keep hd (fun _ x => x.elim) (fun x => x)⟩)
        clear HC HT hd hw1 e0 x0
        have HA3 := Lib.hid hA3
        have HAB := Lib.hid (above_any HT1.out.2.2 HT1.out.2.1.root)
        rw [hab] at HAB
        clear hA3 hab
        go_wp2_with fail
        refine HAB.out.mono ?_
        rintro e w2 ⟨rfl, dq, rfl⟩
        have hd2 := (Keep.refl No w1).drewN dq
        have HT2 := Lib.hid (show _ ∧ _ ∧ _ ∧ _ from ⟨HT1.out.1.keep hd2 (fun x => x), HT1.out.2.1.new_ hd2, HT1.out.2.2.keep hd2 (fun _ x => x.elim) (fun x => x), HA3.out.new_ hd2⟩)
        clear HT1 HA3 HAB hd2
        go_wp2_with fail
        refine (HS.out _ HT2.out.1 HT2.out.2.1 HT2.out.2.2.2).mono ?_
        rintro e w3 ⟨rfl, hlo, hhi, hk3, hl3⟩
        have HL3 := Lib.hid ((Low.no (HD.out.drewN dq)).trans hl3)
        clear hl3
        have hmt : ∀ x, In (AT.node b k' v' l r).blocks x → Mut base (w1.drewN dq) x := fun x hx => HT2.out.2.1.mut x hx
        have X3 := HT2.out.2.2.1.keep hk3 hmt hnb
        have M3 := HT2.out.1.keep hk3 (HT2.out.1.ne HT2.out.2.1)
        obtain ⟨_, _, _, _, _, _, _, _, _, y3, y4, _⟩ := X3.cells
        have f3 := X3.frozen 3
        have f4 := X3.frozen 4
        have H3 := Lib.hid (show _ ∧ _ ∧ _ ∧ _ ∧ _ from ⟨X3, M3, hlo, hhi, hk3⟩)
        clear HT2 HS X3 M3 hlo hhi hk3 hmt x0w
        go_wp2_with fail
        obtain ⟨X3, M3, hlo, hhi, hk3⟩ := H3.out
        have hlob : nb ∉ lo.blocks := fun h => hnb (hp.out.mem_iff.1 (List.mem_append_left _ h))
        have hhib : nb ∉ hi.blocks := fun h => hnb (hp.out.mem_iff.1 (List.mem_append_right _ h))
        have hone : ∀ x, Only nb x → Mut base w3 x := fun x e => e ▸ X3.mut
        have S4 : Keep (Only nb) w3 ((w3.setCell ⟨nb, 3, none⟩ (.pointer lo.ptr)).setCell ⟨nb, 4, none⟩ (.pointer hi.ptr)) := ((Keep.refl (Only nb) w3).setCell (p := ⟨nb, 3, none⟩) (.inl rfl) _).setCell (p := ⟨nb, 4, none⟩) (.inl rfl) _
        refine (fresh_low (M3.keep S4 (M3.ne_node X3)) ((X3.set3 lo.ptr).set4 hi.ptr) (hlo.keep S4 hone (fun x hx e => hlob (e ▸ hx))) (hhi.keep S4 hone (fun x hx e => hhib (e ▸ hx))) hlob hhib (by have := hps.out; omega)).mono ?_
        rintro e w5 ⟨rfl, hrep, hk5, hl5⟩
        have HLP := Lib.hid (LowP.low (nb := nb) (((HL3.out.set nb 3 (by omega) _).set nb 4 (by omega) _).trans hl5))
        clear hl5
        have hk := ((HD.out.mono (S' := In (nb :: (AT.node b k' v' l r).blocks)) (fun _ x => x.elim)).trans hk3.of_drewN (fun x e => .inl (List.mem_cons_of_mem _ e))).trans (S4.trans hk5 (fun x e => .inl e)) (fun x e => .inl (by subst e; simp [In]))
        have HF := Lib.hid (show _ ∧ _ from ⟨hrep, hk⟩)
        clear hrep hk hk5 S4 hone X3 M3 hlo hhi hk3 H3
        go_wp2
        go_ret
        exact ⟨rfl, HF.out.1, HF.out.2, HLP.out⟩
      | false =>
        by_cases hlt : Lt k k'
        ·
          have e9 : (AT.node b k' v' l r).put seed nb k v = .node b k' v' (l.put seed nb k v) r := by rw [AT.put, if_neg hkk, hab, if_pos hlt]; rfl
          rw [e9, ptr_node]
          have HI := Lib.hid (fun (w1 : World) hm hr hx => ihl w1 hm hr n3 hx hnbl hszl)
          have hpm := Lib.hid (fun x (h : x ∈ (l.put seed nb k v).blocks) => put_mem h)
          have hps := Lib.hid (put_size seed nb k v l)
          generalize l.put seed nb k v = q at *
          have hbq : b ∉ q.blocks := fun h => (hpm.out b h).elim (fun e => hnbb e.symm) n1
          have hcz : (Lib.compareBytes k k' == 0) = false := by simp [cb_eq, hkk]
          have hcl : Lib.compareBytes k k' < 0 := hlt
          generalize Lib.compareBytes k k' = z at *
          have HC := Lib.hid hcmp
          have HT := Lib.hid (show _ ∧ _ ∧ _ from ⟨hm, ht, hx⟩)
          clear hcmp hm ht hx hA hB hA2 hB2 hN e9 ihl ihr hkk e1 e2 e3 e4 e5 e6 x1 x2 x3 x4 x5 x6 hlt hnd
          go_enter Try.func84, Try.ntmps84
          go_wp2_with fail
          go_quiet ((go_at_call 61; exact quiet_drawn (HC.out _)))
          obtain ⟨w1, hw1⟩ : ∃ x, x = w.drewN nq := ⟨_, rfl⟩
          rw [← hw1]
          have hd : Keep No w w1 := hw1 ▸ (Keep.refl No w).drewN nq
          have HD := Lib.hid hd
          have HT1 := Lib.hid (show _ ∧ _ ∧ _ from ⟨HT.out.1.keep hd (fun x => x), HT.out.2.1.new_ hd, HT.out.2.2.keep hd (fun _ x => x.elim) (fun x => x)⟩)
          clear HC HT hd hw1 e0 x0
          have HAB := Lib.hid (above_any HT1.out.2.2 HT1.out.2.1.root)
          rw [hab] at HAB
          clear hab
          go_wp2_with fail
          refine HAB.out.mono ?_
          rintro e w2 ⟨rfl, dq, rfl⟩
          have hd2 := (Keep.refl No w1).drewN dq
          have HT2 := Lib.hid (show _ ∧ _ ∧ _ from ⟨HT1.out.1.keep hd2 (fun x => x), HT1.out.2.1.new_ hd2, HT1.out.2.2.keep hd2 (fun _ x => x.elim) (fun x => x)⟩)
          obtain ⟨_, _, _, _, _, _, _, _, _, h3, h4, _⟩ := HT1.out.2.1.root.cells
          clear HT1 HAB hd2 h4
          go_wp2_with fail
          refine (HI.out _ HT2.out.1 HT2.out.2.1.2.1 HT2.out.2.2).mono ?_
          rintro e w3 ⟨rfl, hqr, hk3, hl3⟩
          have HL3 := Lib.hid (hl3.pre (Low.no (HD.out.drewN dq)) hnbs)
          clear hl3
          have hmt : ∀ x, In (nb :: l.blocks) x → Mut base (w1.drewN dq) x := fun x hx => (List.mem_cons.1 hx).elim (fun e => e ▸ HT2.out.2.2.mut) (fun h => HT2.out.2.1.2.1.mut x h)
          have N3 := HT2.out.2.1.root.keep hk3 hmt (fun h => (List.mem_cons.1 h).elim (fun e => hnbb e.symm) n1)
          have O3 := HT2.out.2.1.2.2.keep hk3 hmt (fun x hx h => (List.mem_cons.1 h).elim (fun e => hnbr (e ▸ hx)) (fun h => n5 x h hx))
          have M3 := HT2.out.1.keep hk3 (fun h => (List.mem_cons.1 h).elim (HT2.out.1.ne_node HT2.out.2.2) (HT2.out.1.ne HT2.out.2.1.2.1))
          obtain ⟨_, _, _, _, _, _, _, _, _, g3, g4, _⟩ := N3.cells
          have f3 := N3.frozen 3
          have H3 := Lib.hid (show _ ∧ _ ∧ _ ∧ _ ∧ _ from ⟨N3, O3, M3, hqr, hk3⟩)
          clear HT2 HI N3 O3 M3 hqr hk3 hmt h3 g4
          go_wp2_with fail
          obtain ⟨N3, O3, M3, hqr, hk3⟩ := H3.out
          have hone : ∀ x, Only b x → Mut base w3 x := fun x e => e ▸ N3.mut
          have S4 : Keep (Only b) w3 (w3.setCell ⟨b, 3, none⟩ (.pointer q.ptr)) := (Keep.refl (Only b) w3).setCell (p := ⟨b, 3, none⟩) (.inl rfl) _
          refine (fresh_low (M3.keep S4 (M3.ne_node N3)) (N3.set3 q.ptr) (hqr.keep S4 hone (fun x hx e => hbq (e ▸ hx))) (O3.keep S4 hone (fun x hx e => n2 (e ▸ hx))) hbq n2 (by have := hps.out; omega)).mono ?_
          rintro e w5 ⟨rfl, hrep, hk5, hl5⟩
          have HLP := Lib.hid ((HL3.out.trans ((Low.refl w3).set b 3 (by omega) _)).trans hl5)
          clear hl5
          have hk := ((HD.out.mono (S' := In (nb :: (AT.node b k' v' l r).blocks)) (fun _ x => x.elim)).trans hk3.of_drewN (fun x e => .inl ((List.mem_cons.1 e).elim (fun e => e ▸ List.mem_cons_self) (fun h => List.mem_cons_of_mem _ (List.mem_cons_of_mem _ (List.mem_append_left _ h)))))).trans (S4.trans hk5 (fun x e => .inl e)) (fun x e => .inl (by subst e; simp [In, AT.blocks]))
          have HF := Lib.hid (show _ ∧ _ from ⟨hrep, hk⟩)
          clear hrep hk hk5 S4 hone N3 O3 M3 hqr hk3 H3
          go_wp2
          go_ret
          exact ⟨rfl, HF.out.1, HF.out.2, HLP.out⟩
        ·
          have e9 : (AT.node b k' v' l r).put seed nb k v = .node b k' v' l (r.put seed nb k v) := by rw [AT.put, if_neg hkk, hab, if_neg hlt]; rfl
          rw [e9, ptr_node]
          have HI := Lib.hid (fun (w1 : World) hm hr hx => ihr w1 hm hr n4 hx hnbr hszr)
          have hpm := Lib.hid (fun x (h : x ∈ (r.put seed nb k v).blocks) => put_mem h)
          have hps := Lib.hid (put_size seed nb k v r)
          generalize r.put seed nb k v = q at *
          have hbq : b ∉ q.blocks := fun h => (hpm.out b h).elim (fun e => hnbb e.symm) n2
          have hcz : (Lib.compareBytes k k' == 0) = false := by simp [cb_eq, hkk]
          have hcl : ¬ Lib.compareBytes k k' < 0 := hlt
          generalize Lib.compareBytes k k' = z at *
          have HC := Lib.hid hcmp
          have HT := Lib.hid (show _ ∧ _ ∧ _ from ⟨hm, ht, hx⟩)
          clear hcmp hm ht hx hA hB hA2 hB2 hN e9 ihl ihr hkk e1 e2 e3 e4 e5 e6 x1 x2 x3 x4 x5 x6 hlt hnd
          go_enter Try.func84, Try.ntmps84
          go_wp2_with fail
          go_quiet ((go_at_call 61; exact quiet_drawn (HC.out _)))
          obtain ⟨w1, hw1⟩ : ∃ x, x = w.drewN nq := ⟨_, rfl⟩
          rw [← hw1]
          have hd : Keep No w w1 := hw1 ▸ (Keep.refl No w).drewN nq
          have HD := Lib.hid hd
          have HT1 := Lib.hid (show _ ∧ _ ∧ _ from ⟨HT.out.1.keep hd (fun x => x), HT.out.2.1.new_ hd, HT.out.2.2.keep hd (fun _ x => x.elim) (fun x => x)⟩)
          clear HC HT hd hw1 e0 x0
          have HAB := Lib.hid (above_any HT1.out.2.2 HT1.out.2.1.root)
          rw [hab] at HAB
          clear hab
          go_wp2_with fail
          refine HAB.out.mono ?_
          rintro e w2 ⟨rfl, dq, rfl⟩
          have hd2 := (Keep.refl No w1).drewN dq
          have HT2 := Lib.hid (show _ ∧ _ ∧ _ from ⟨HT1.out.1.keep hd2 (fun x => x), HT1.out.2.1.new_ hd2, HT1.out.2.2.keep hd2 (fun _ x => x.elim) (fun x => x)⟩)
          obtain ⟨_, _, _, _, _, _, _, _, _, h3, h4, _⟩ := HT1.out.2.1.root.cells
          clear HT1 HAB hd2 h3
          go_wp2_with fail
          refine (HI.out _ HT2.out.1 HT2.out.2.1.2.2 HT2.out.2.2).mono ?_
          rintro e w3 ⟨rfl, hqr, hk3, hl3⟩
          have HL3 := Lib.hid (hl3.pre (Low.no (HD.out.drewN dq)) hnbs)
          clear hl3
          have hmt : ∀ x, In (nb :: r.blocks) x → Mut base (w1.drewN dq) x := fun x hx => (List.mem_cons.1 hx).elim (fun e => e ▸ HT2.out.2.2.mut) (fun h => HT2.out.2.1.2.2.mut x h)
          have N3 := HT2.out.2.1.root.keep hk3 hmt (fun h => (List.mem_cons.1 h).elim (fun e => hnbb e.symm) n2)
          have O3 := HT2.out.2.1.2.1.keep hk3 hmt (fun x hx h => (List.mem_cons.1 h).elim (fun e => hnbl (e ▸ hx)) (fun h => n5 x hx h))
          have M3 := HT2.out.1.keep hk3 (fun h => (List.mem_cons.1 h).elim (HT2.out.1.ne_node HT2.out.2.2) (HT2.out.1.ne HT2.out.2.1.2.2))
          obtain ⟨_, _, _, _, _, _, _, _, _, g3, g4, _⟩ := N3.cells
          have f3 := N3.frozen 4
          have H3 := Lib.hid (show _ ∧ _ ∧ _ ∧ _ ∧ _ from ⟨N3, O3, M3, hqr, hk3⟩)
          clear HT2 HI N3 O3 M3 hqr hk3 hmt h4 g3
          go_wp2_with fail
          obtain ⟨N3, O3, M3, hqr, hk3⟩ := H3.out
          have hone : ∀ x, Only b x → Mut base w3 x := fun x e => e ▸ N3.mut
          have S4 : Keep (Only b) w3 (w3.setCell ⟨b, 4, none⟩ (.pointer q.ptr)) := (Keep.refl (Only b) w3).setCell (p := ⟨b, 4, none⟩) (.inl rfl) _
          refine (fresh_low (M3.keep S4 (M3.ne_node N3)) (N3.set4 q.ptr) (O3.keep S4 hone (fun x hx e => n1 (e ▸ hx))) (hqr.keep S4 hone (fun x hx e => hbq (e ▸ hx))) n1 hbq (by have := hps.out; omega)).mono ?_
          rintro e w5 ⟨rfl, hrep, hk5, hl5⟩
          have HLP := Lib.hid ((HL3.out.trans ((Low.refl w3).set b 4 (by omega) _)).trans hl5)
          clear hl5
          have hk := ((HD.out.mono (S' := In (nb :: (AT.node b k' v' l r).blocks)) (fun _ x => x.elim)).trans hk3.of_drewN (fun x e => .inl ((List.mem_cons.1 e).elim (fun e => e ▸ List.mem_cons_self) (fun h => List.mem_cons_of_mem _ (List.mem_cons_of_mem _ (List.mem_append_right _ h)))))).trans (S4.trans hk5 (fun x e => .inl e)) (fun x e => .inl (by subst e; simp [In, AT.blocks]))
          have HF := Lib.hid (show _ ∧ _ from ⟨hrep, hk⟩)
          clear hrep hk hk5 S4 hone N3 O3 M3 hqr hk3 H3
          go_wp2
          go_ret
          exact ⟨rfl, HF.out.1, HF.out.2, HLP.out⟩

theorem put_any {base : Nat} {seed : Int} {mb nb : Nat} {root : Option Addr} {k v : List UInt8} (t : AT) : ∀ (w : World), MapHas base w mb seed root → Rep base w seed t → t.blocks.Nodup → Node base w seed nb k v none none 0 0 → nb ∉ t.blocks → t.size < 900000000 →
    Calls Try.prog 84 #[.pointer (some ⟨mb, 0, none⟩), .pointer t.ptr, .pointer (some ⟨nb, 0, none⟩)] w fun e w' =>
      e = .returned (.pointer (t.put seed nb k v).ptr) ∧ Rep base w' seed (t.put seed nb k v) ∧ Keep (In (nb :: t.blocks)) w w' :=
  fun w h1 h2 h3 h4 h5 h6 => (put_low t w h1 h2 h3 h4 h5 h6).mono fun _ _ ⟨h1, h2, h3, _⟩ => ⟨h1, h2, h3⟩
end Go.Proofs.Ytdmckjojeddaaaa
