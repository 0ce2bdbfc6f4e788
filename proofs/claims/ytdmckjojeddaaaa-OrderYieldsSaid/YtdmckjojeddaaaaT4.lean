/- Contract of order's merge. Conditions: it names its own. -/
import Derived.Test.YtdmckjojeddaaaaT2
namespace Go.Proofs.Ytdmckjojeddaaaa
open Go.RowKit Go.Proofs.YtdmckjojeddaaaaKit Go.Proofs.YtdmckjojeddaaaaPlain

def AT.mergeIn (ab : List UInt8 → List UInt8 → Bool) (ba : Nat) (ka va : List UInt8) (la ra : AT) (f : AT → AT) : AT → AT
  | .nil => .node ba ka va la ra
  | .node bb kb vb lb rb => if ab ka kb then .node ba ka va la (f (.node bb kb vb lb rb)) else .node bb kb vb (mergeIn ab ba ka va la ra f lb) rb
def AT.mergeWith (ab : List UInt8 → List UInt8 → Bool) : AT → AT → AT
  | .nil => fun b => b
  | .node ba ka va la ra => AT.mergeIn ab ba ka va la ra (mergeWith ab ra)
def AT.merge (seed : Int) (a b : AT) : AT := AT.mergeWith (aboveB seed) a b

theorem merge_nil (seed : Int) (b : AT) : AT.merge seed .nil b = b := rfl
theorem merge_nil' (seed : Int) (a : AT) : AT.merge seed a .nil = a := by cases a <;> rfl
theorem merge_node (seed : Int) (ba bb : Nat) (ka va kb vb : List UInt8) (la ra lb rb : AT) : AT.merge seed (.node ba ka va la ra) (.node bb kb vb lb rb) =
    if aboveB seed ka kb then .node ba ka va la (AT.merge seed ra (.node bb kb vb lb rb)) else .node bb kb vb (AT.merge seed (.node ba ka va la ra) lb) rb := rfl
theorem merge_perm (seed : Int) : ∀ (N : Nat) (a b : AT), a.size + b.size ≤ N → (AT.merge seed a b).blocks.Perm (a.blocks ++ b.blocks) ∧ (AT.merge seed a b).size = a.size + b.size := by
  intro N
  induction N with
  | zero =>
    intro a b h
    cases a with
    | nil => rw [merge_nil]; simp [AT.blocks, AT.size]
    | node => simp [AT.size] at h
  | succ N ih =>
    intro a b h
    cases a with
    | nil => rw [merge_nil]; simp [AT.blocks, AT.size]
    | node ba ka va la ra =>
      cases b with
      | nil => rw [merge_nil']; simp [AT.blocks, AT.size]
      | node bb kb vb lb rb =>
        rw [merge_node]
        simp only [AT.size] at h
        split
        · obtain ⟨h1, h2⟩ := ih ra (.node bb kb vb lb rb) (by simp only [AT.size]; omega)
          refine ⟨?_, by simp only [AT.size] at *; omega⟩
          simp only [AT.blocks] at *
          simp only [List.cons_append, List.append_assoc]
          exact List.Perm.cons _ (List.Perm.append_left _ h1)
        · obtain ⟨h1, h2⟩ := ih (.node ba ka va la ra) lb (by simp only [AT.size]; omega)
          refine ⟨?_, by simp only [AT.size] at *; omega⟩
          simp only [AT.blocks] at *
          refine (List.Perm.cons _ (List.Perm.append_right _ h1)).trans ?_
          rw [List.append_assoc]
          exact List.perm_middle.symm

set_option maxHeartbeats 4000000 in
set_option maxRecDepth 100000 in
theorem merge_low {base : Nat} {seed : Int} {mb : Nat} {root : Option Addr} : ∀ (N : Nat) (a b : AT) (w : World), a.size + b.size ≤ N → MapHas base w mb seed root → Rep base w seed a → Rep base w seed b → a.blocks.Nodup → b.blocks.Nodup → (∀ x ∈ a.blocks, x ∉ b.blocks) → a.size + b.size < 1000000000 →
    Calls Try.prog 87 #[.pointer (some ⟨mb, 0, none⟩), .pointer a.ptr, .pointer b.ptr] w fun e w' =>
      e = .returned (.pointer (AT.merge seed a b).ptr) ∧ Rep base w' seed (AT.merge seed a b) ∧ Keep (In (a.blocks ++ b.blocks)) w w' ∧ Low w w' := by
  intro N
  induction N with
  | zero =>
    intro a b w h _ _ hb _ _ _ _
    cases a with
    | node => simp [AT.size] at h
    | nil =>
      rw [ptr_nil, merge_nil]
      go_enter Try.func87, Try.ntmps87
      go_wp2
      go_ret
      exact ⟨rfl, hb, Keep.refl _ _, Low.refl _⟩
  | succ N ih =>
    intro a b w h hm hra hrb hna hnb hdis hsz
    cases a with
    | nil =>
      rw [ptr_nil, merge_nil]
      clear ih
      go_enter Try.func87, Try.ntmps87
      go_wp2
      go_ret
      exact ⟨rfl, hrb, Keep.refl _ _, Low.refl _⟩
    | node ba ka va la ra =>
      cases b with
      | nil =>
        rw [ptr_node, ptr_nil, merge_nil']
        clear ih
        go_enter Try.func87, Try.ntmps87
        go_wp2
        go_ret
        exact ⟨rfl, hra, Keep.refl _ _, Low.refl _⟩
      | node bb kb vb lb rb =>
        have hab := above_any hra.root hrb.root
        have hpm := (merge_perm seed _ (.node ba ka va la ra) (.node bb kb vb lb rb) (Nat.le_refl _))
        obtain ⟨n1, n2, n3, n4, n5⟩ := nodup_node hna
        obtain ⟨m1, m2, m3, m4, m5⟩ := nodup_node hnb
        have sub1 : ∀ x, x ∈ ra.blocks → x ∈ (AT.node ba ka va la ra).blocks := fun x hx => List.mem_cons_of_mem _ (List.mem_append_right _ hx)
        have sub2 : ∀ x, x ∈ la.blocks → x ∈ (AT.node ba ka va la ra).blocks := fun x hx => List.mem_cons_of_mem _ (List.mem_append_left _ hx)
        have sub3 : ∀ x, x ∈ rb.blocks → x ∈ (AT.node bb kb vb lb rb).blocks := fun x hx => List.mem_cons_of_mem _ (List.mem_append_right _ hx)
        have sub4 : ∀ x, x ∈ lb.blocks → x ∈ (AT.node bb kb vb lb rb).blocks := fun x hx => List.mem_cons_of_mem _ (List.mem_append_left _ hx)
        have sub5 : ba ∈ (AT.node ba ka va la ra).blocks := List.mem_cons_self
        have sub6 : bb ∈ (AT.node bb kb vb lb rb).blocks := List.mem_cons_self
        cases hB : aboveB seed ka kb with
        | true =>
          rw [hB] at hab
          have e0 : AT.merge seed (.node ba ka va la ra) (.node bb kb vb lb rb) = .node ba ka va la (AT.merge seed ra (.node bb kb vb lb rb)) := by rw [merge_node, hB]; rfl
          rw [e0] at hpm
          rw [e0, ptr_node]
          have HI := Lib.hid (fun (w : World) hm hr hb => ih ra (.node bb kb vb lb rb) w (by simp only [AT.size] at *; omega) hm hr hb n4 hnb (fun x hx => hdis x (sub1 x hx)) (by simp only [AT.size] at *; omega))
          have hq := merge_perm seed _ ra (.node bb kb vb lb rb) (Nat.le_refl _)
          have hsz2 : la.size + (AT.merge seed ra (.node bb kb vb lb rb)).size < 1000000000 := by rw [hq.2]; simp only [AT.size] at *; omega
          have HQ := Lib.hid (fun x => (hq.1.mem_iff (a := x)))
          generalize AT.merge seed ra (.node bb kb vb lb rb) = q at *
          have hbq : ba ∉ q.blocks := fun hx => by
            rcases List.mem_append.1 ((HQ.out ba).1 hx) with h1 | h1
            · exact n2 h1
            · exact hdis ba sub5 h1
          have HT := Lib.hid (show _ ∧ _ ∧ _ from ⟨hm, hra, hrb⟩)
          have HAB := Lib.hid hab
          obtain ⟨_, _, _, _, _, _, _, _, _, _, e4, _⟩ := hra.root.cells
          clear ih hm hra hrb hab e0 hpm hq hB
          generalize hbp : (AT.node bb kb vb lb rb).ptr = bp at *
          have hbp2 : bp = some ⟨bb, 0, none⟩ := hbp.symm
          subst hbp2
          clear hbp
          go_enter Try.func87, Try.ntmps87
          go_wp2_with fail
          refine HAB.out.mono ?_
          rintro e w1 ⟨rfl, dq, rfl⟩
          have hd := (Keep.refl No w).drewN dq
          have hra1 := HT.out.2.1.new_ hd
          have hrb1 := HT.out.2.2.new_ hd
          have hm1 := HT.out.1.keep hd (fun x => x)
          have H1 := Lib.hid (show _ ∧ _ ∧ _ from ⟨hm1, hra1, hrb1⟩)
          clear hra1 hrb1 hm1 HAB HT hd
          go_wp2_with fail
          refine (HI.out _ H1.out.1 H1.out.2.1.2.2 H1.out.2.2).mono ?_
          rintro e w2 ⟨rfl, hqr, hk2, hl2⟩
          have HLo1 := Lib.hid ((Low.no ((Keep.refl No w).drewN dq)).trans hl2)
          clear hl2
          have hmut : ∀ x, In (ra.blocks ++ (AT.node bb kb vb lb rb).blocks) x → Mut base (w.drewN dq) x := fun x hx => (List.mem_append.1 hx).elim (fun h => H1.out.2.1.2.2.mut x h) (fun h => H1.out.2.2.mut x h)
          have hnot : ∀ x, (x = ba ∨ x ∈ la.blocks) → ¬ In (ra.blocks ++ (AT.node bb kb vb lb rb).blocks) x := fun x hx hy => by
            rcases List.mem_append.1 hy with h1 | h1
            · rcases hx with rfl | hx
              · exact n2 h1
              · exact n5 x hx h1
            · rcases hx with rfl | hx
              · exact hdis _ sub5 h1
              · exact hdis _ (sub2 x hx) h1
          have N2 := H1.out.2.1.root.keep hk2 hmut (hnot ba (.inl rfl))
          have L2 := H1.out.2.1.2.1.keep hk2 hmut (fun x hx => hnot x (.inr hx))
          have M2 := H1.out.1.keep hk2 (fun hx => (List.mem_append.1 hx).elim (H1.out.1.ne H1.out.2.1.2.2) (H1.out.1.ne H1.out.2.2))
          obtain ⟨_, _, _, _, _, _, _, _, _, _, g4, _⟩ := N2.cells
          have f4 := N2.frozen 4
          have H2 := Lib.hid (show _ ∧ _ ∧ _ ∧ _ ∧ _ from ⟨N2, L2, M2, hqr, hk2⟩)
          clear N2 L2 M2 hqr hk2 hmut hnot H1 HI
          go_wp2_with fail
          obtain ⟨N2, L2, M2, hqr, hk2⟩ := H2.out
          have hone : ∀ x, Only ba x → Mut base w2 x := fun x e => e ▸ N2.mut
          have S2 : Keep (Only ba) w2 (w2.setCell ⟨ba, 4, none⟩ (.pointer q.ptr)) := (Keep.refl (Only ba) w2).setCell (p := ⟨ba, 4, none⟩) (.inl rfl) _
          refine (fresh_low (M2.keep S2 (M2.ne_node N2)) (N2.set4 q.ptr) (L2.keep S2 hone (fun x hx e => n1 (e ▸ hx))) (hqr.keep S2 hone (fun x hx e => hbq (e ▸ hx))) n1 hbq hsz2).mono ?_
          rintro e w3 ⟨rfl, hrep, hk3, hl3⟩
          have HLo3 := Lib.hid ((HLo1.out.set ba 4 (by omega) _).trans hl3)
          clear hl3 HLo1
          have hk := (hk2.of_drewN.mono (S' := In ((AT.node ba ka va la ra).blocks ++ (AT.node bb kb vb lb rb).blocks)) (fun x hx => (List.mem_append.1 hx).elim (fun h => List.mem_append_left _ (sub1 x h)) (fun h => List.mem_append_right _ h))).trans (S2.trans hk3 (fun x e => .inl e)) (fun x e => .inl (by subst e; exact List.mem_append_left _ sub5))
          have HF := Lib.hid (show _ ∧ _ from ⟨hrep, hk⟩)
          clear hrep hk hk3 S2 hone N2 L2 M2 hqr hk2 H2
          go_wp2
          go_ret
          exact ⟨rfl, HF.out.1, HF.out.2, HLo3.out⟩
        | false =>
          rw [hB] at hab
          have e0 : AT.merge seed (.node ba ka va la ra) (.node bb kb vb lb rb) = .node bb kb vb (AT.merge seed (.node ba ka va la ra) lb) rb := by rw [merge_node, hB]; rfl
          rw [e0] at hpm
          rw [e0, ptr_node]
          have HI := Lib.hid (fun (w : World) hm hr hb => ih (.node ba ka va la ra) lb w (by simp only [AT.size] at *; omega) hm hr hb hna m3 (fun x hx hy => hdis x hx (sub4 x hy)) (by simp only [AT.size] at *; omega))
          have hq := merge_perm seed _ (.node ba ka va la ra) lb (Nat.le_refl _)
          have hsz2 : (AT.merge seed (.node ba ka va la ra) lb).size + rb.size < 1000000000 := by rw [hq.2]; simp only [AT.size] at *; omega
          have HQ := Lib.hid (fun x => (hq.1.mem_iff (a := x)))
          generalize AT.merge seed (.node ba ka va la ra) lb = q at *
          have hbq : bb ∉ q.blocks := fun hx => by
            rcases List.mem_append.1 ((HQ.out bb).1 hx) with h1 | h1
            · exact hdis bb h1 sub6
            · exact m1 h1
          have HT := Lib.hid (show _ ∧ _ ∧ _ from ⟨hm, hra, hrb⟩)
          have HAB := Lib.hid hab
          obtain ⟨_, _, _, _, _, _, _, _, _, e3, _, _⟩ := hrb.root.cells
          clear ih hm hra hrb hab e0 hpm hq hB
          generalize hbp : (AT.node bb kb vb lb rb).ptr = bp at *
          have hbp2 : bp = some ⟨bb, 0, none⟩ := hbp.symm
          subst hbp2
          clear hbp
          go_enter Try.func87, Try.ntmps87
          go_wp2_with fail
          refine HAB.out.mono ?_
          rintro e w1 ⟨rfl, dq, rfl⟩
          have hd := (Keep.refl No w).drewN dq
          have hra1 := HT.out.2.1.new_ hd
          have hrb1 := HT.out.2.2.new_ hd
          have hm1 := HT.out.1.keep hd (fun x => x)
          have H1 := Lib.hid (show _ ∧ _ ∧ _ from ⟨hm1, hra1, hrb1⟩)
          clear hra1 hrb1 hm1 HAB HT hd
          go_wp2_with fail
          refine (HI.out _ H1.out.1 H1.out.2.1 H1.out.2.2.2.1).mono ?_
          rintro e w2 ⟨rfl, hqr, hk2, hl2⟩
          have HLo1 := Lib.hid ((Low.no ((Keep.refl No w).drewN dq)).trans hl2)
          clear hl2
          have hmut : ∀ x, In ((AT.node ba ka va la ra).blocks ++ lb.blocks) x → Mut base (w.drewN dq) x := fun x hx => (List.mem_append.1 hx).elim (fun h => H1.out.2.1.mut x h) (fun h => H1.out.2.2.2.1.mut x h)
          have hnot : ∀ x, (x = bb ∨ x ∈ rb.blocks) → ¬ In ((AT.node ba ka va la ra).blocks ++ lb.blocks) x := fun x hx hy => by
            rcases List.mem_append.1 hy with h1 | h1
            · rcases hx with rfl | hx
              · exact hdis _ h1 sub6
              · exact hdis _ h1 (sub3 x hx)
            · rcases hx with rfl | hx
              · exact m1 h1
              · exact m5 x h1 hx
          have N2 := H1.out.2.2.root.keep hk2 hmut (hnot bb (.inl rfl))
          have R2 := H1.out.2.2.2.2.keep hk2 hmut (fun x hx => hnot x (.inr hx))
          have M2 := H1.out.1.keep hk2 (fun hx => (List.mem_append.1 hx).elim (H1.out.1.ne H1.out.2.1) (H1.out.1.ne H1.out.2.2.2.1))
          obtain ⟨_, _, _, _, _, _, _, _, _, g3, _, _⟩ := N2.cells
          have f3 := N2.frozen 3
          have H2 := Lib.hid (show _ ∧ _ ∧ _ ∧ _ ∧ _ from ⟨N2, R2, M2, hqr, hk2⟩)
          clear N2 R2 M2 hqr hk2 hmut hnot H1 HI
          go_wp2_with fail
          obtain ⟨N2, R2, M2, hqr, hk2⟩ := H2.out
          have hone : ∀ x, Only bb x → Mut base w2 x := fun x e => e ▸ N2.mut
          have S2 : Keep (Only bb) w2 (w2.setCell ⟨bb, 3, none⟩ (.pointer q.ptr)) := (Keep.refl (Only bb) w2).setCell (p := ⟨bb, 3, none⟩) (.inl rfl) _
          refine (fresh_low (M2.keep S2 (M2.ne_node N2)) (N2.set3 q.ptr) (hqr.keep S2 hone (fun x hx e => hbq (e ▸ hx))) (R2.keep S2 hone (fun x hx e => m2 (e ▸ hx))) hbq m2 hsz2).mono ?_
          rintro e w3 ⟨rfl, hrep, hk3, hl3⟩
          have HLo3 := Lib.hid ((HLo1.out.set bb 3 (by omega) _).trans hl3)
          clear hl3 HLo1
          have hk := (hk2.of_drewN.mono (S' := In ((AT.node ba ka va la ra).blocks ++ (AT.node bb kb vb lb rb).blocks)) (fun x hx => (List.mem_append.1 hx).elim (fun h => List.mem_append_left _ h) (fun h => List.mem_append_right _ (sub4 x h)))).trans (S2.trans hk3 (fun x e => .inl e)) (fun x e => .inl (by subst e; exact List.mem_append_right _ sub6))
          have HF := Lib.hid (show _ ∧ _ from ⟨hrep, hk⟩)
          clear hrep hk hk3 S2 hone N2 R2 M2 hqr hk2 H2
          go_wp2
          go_ret
          exact ⟨rfl, HF.out.1, HF.out.2, HLo3.out⟩

theorem merge_any {base : Nat} {seed : Int} {mb : Nat} {root : Option Addr} : ∀ (N : Nat) (a b : AT) (w : World), a.size + b.size ≤ N → MapHas base w mb seed root → Rep base w seed a → Rep base w seed b → a.blocks.Nodup → b.blocks.Nodup → (∀ x ∈ a.blocks, x ∉ b.blocks) → a.size + b.size < 1000000000 →
    Calls Try.prog 87 #[.pointer (some ⟨mb, 0, none⟩), .pointer a.ptr, .pointer b.ptr] w fun e w' =>
      e = .returned (.pointer (AT.merge seed a b).ptr) ∧ Rep base w' seed (AT.merge seed a b) ∧ Keep (In (a.blocks ++ b.blocks)) w w' :=
  fun N a b w h1 h2 h3 h4 h5 h6 h7 h8 => (merge_low N a b w h1 h2 h3 h4 h5 h6 h7 h8).mono fun _ _ ⟨h1, h2, h3, _⟩ => ⟨h1, h2, h3⟩
end Go.Proofs.Ytdmckjojeddaaaa
