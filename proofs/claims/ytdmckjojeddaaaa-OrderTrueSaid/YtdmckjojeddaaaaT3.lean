/- Contracts of order's split and merge. Conditions: each names its own. -/
import Derived.Test.YtdmckjojeddaaaaT2
namespace Go.Proofs.Ytdmckjojeddaaaa
open Go.RowKit Go.Proofs.YtdmckjojeddaaaaKit Go.Proofs.YtdmckjojeddaaaaPlain

def AT.split (key : List UInt8) : AT → AT × AT
  | .nil => (.nil, .nil)
  | .node b k v l r => if Lt k key then (.node b k v l (split key r).1, (split key r).2) else ((split key l).1, .node b k v (split key l).2 r)

theorem split_perm (key : List UInt8) (t : AT) : ((t.split key).1.blocks ++ (t.split key).2.blocks).Perm t.blocks := by
  induction t with
  | nil => simp [AT.split, AT.blocks]
  | node b k v l r ihl ihr =>
    simp only [AT.split]
    split
    · simp only [AT.blocks, List.cons_append, List.append_assoc]
      exact List.Perm.cons _ (List.Perm.append_left _ ihr)
    · simp only [AT.blocks]
      refine (List.perm_middle).trans (List.Perm.cons _ ?_)
      rw [← List.append_assoc]
      exact List.Perm.append_right _ ihl
theorem split_size (key : List UInt8) (t : AT) : (t.split key).1.size + (t.split key).2.size = t.size := by
  induction t with
  | nil => rfl
  | node b k v l r ihl ihr =>
    simp only [AT.split]
    split <;> simp only [AT.size] <;> omega

theorem nodup_node {b : Nat} {k v : List UInt8} {l r : AT} (h : (AT.node b k v l r).blocks.Nodup) : b ∉ l.blocks ∧ b ∉ r.blocks ∧ l.blocks.Nodup ∧ r.blocks.Nodup ∧ ∀ x, x ∈ l.blocks → x ∉ r.blocks := by
  simp only [AT.blocks, List.nodup_cons, List.mem_append, not_or] at h
  obtain ⟨h1, h2⟩ := h
  rw [List.nodup_append] at h2
  exact ⟨h1.1, h1.2, h2.1, h2.2.1, fun x hx hy => h2.2.2 x hx x hy rfl⟩

theorem keep_in {base : Nat} {w w1 : World} {seed : Int} {t : AT} {l : List Nat} (h : Rep base w seed t) (hl : ∀ b ∈ l, Mut base w b) (hk : Keep (In l) w w1) (hd : ∀ b ∈ t.blocks, b ∉ l) : Rep base w1 seed t := h.keep hk hl hd

set_option maxHeartbeats 4000000 in
set_option maxRecDepth 100000 in
theorem split_any {base : Nat} {seed : Int} {mb : Nat} {root : Option Addr} (A : Option Addr) (n c : Nat) (key : List UInt8) (t : AT) : ∀ (w : World), MapHas base w mb seed root → Rep base w seed t → t.blocks.Nodup → Bytes base w A n key → t.size < 1000000000 →
    Calls Try.prog 86 #[.pointer (some ⟨mb, 0, none⟩), .pointer t.ptr, .slice A n c] w fun e w' =>
      e = .returned (.tuple #[.pointer (t.split key).1.ptr, .pointer (t.split key).2.ptr]) ∧ Rep base w' seed (t.split key).1 ∧ Rep base w' seed (t.split key).2 ∧ Keep (In t.blocks) w w' := by
  induction t with
  | nil =>
    intro w _ _ _ _ _
    rw [ptr_nil]
    go_enter Try.func86, Try.ntmps86
    go_wp2
    go_ret2
    exact ⟨rfl, trivial, trivial, Keep.refl _ _⟩
  | node b k v l r ihl ihr =>
    intro w hm ht hnd hk hsz
    have hN := ht.root
    obtain ⟨n1, n2, n3, n4, n5⟩ := nodup_node hnd
    obtain ⟨A1, c1, B1, d1, hA, hB, e0, e1, e2, e3, e4, e5, e6⟩ := hN.cells
    have hcmp := bcompare A1 A _ c1 _ c k key w hA hk
    rw [ptr_node]
    by_cases hlt : Lt k key
    · rw [cb_lt hlt] at hcmp
      have hsp : (AT.node b k v l r).split key = (.node b k v l (r.split key).1, (r.split key).2) := by simp [AT.split, hlt]
      rw [hsp]
      have hsz2 : r.size < 1000000000 := by simp only [AT.size] at hsz; omega
      have hsz3 : l.size + r.size < 1000000000 := by simp only [AT.size] at hsz; omega
      have HR := Lib.hid (ihr w hm ht.2.2 n4 hk hsz2)
      have HC := Lib.hid hcmp
      have HT := Lib.hid ht
      have HM := Lib.hid hm
      have hp := Lib.hid (split_perm key r)
      have hps := Lib.hid (split_size key r)
      generalize r.split key = q at *
      obtain ⟨lo, hi⟩ := q
      clear hcmp hm ht ihl ihr hA hB hk hN hsp hlt hnd e1 e2 e3 e5 e6
      go_enter Try.func86, Try.ntmps86
      go_wp2_with fail
      refine HC.out.mono ?_
      rintro e w' ⟨rfl, rfl⟩
      go_wp2_with fail
      refine HR.out.mono ?_
      rintro e w1 ⟨rfl, hlo, hhi, hk1⟩
      have hmr : ∀ x, In r.blocks x → Mut base w x := fun x hx => HT.out.2.2.mut x hx
      have N1 := HT.out.root.keep hk1 hmr n2
      have L1 := HT.out.2.1.keep hk1 hmr (fun x hx hy => n5 x hx hy)
      have M1 := HM.out.keep hk1 (HM.out.ne HT.out.2.2)
      obtain ⟨_, _, _, _, _, _, _, _, _, _, g4, _⟩ := N1.cells
      have f4 := N1.frozen 4
      have H1 := Lib.hid (show _ ∧ _ ∧ _ ∧ _ ∧ _ ∧ _ from ⟨N1, L1, M1, hlo, hhi, hk1⟩)
      clear N1 L1 M1 hlo hhi hk1 hmr HC HR
      go_wp2_with fail
      obtain ⟨N1, L1, M1, hlo, hhi, hk1⟩ := H1.out
      have hlor : ∀ x, x ∈ lo.blocks → x ∈ r.blocks := fun x hx => hp.out.mem_iff.1 (List.mem_append_left _ hx)
      have hhir : ∀ x, x ∈ hi.blocks → x ∈ r.blocks := fun x hx => hp.out.mem_iff.1 (List.mem_append_right _ hx)
      have hblo : b ∉ lo.blocks := fun h => n2 (hlor b h)
      have hbhi : b ∉ hi.blocks := fun h => n2 (hhir b h)
      have hone : ∀ x, Only b x → Mut base w1 x := fun x e => e ▸ N1.mut
      have S2 : Keep (Only b) w1 (w1.setCell ⟨b, 4, none⟩ (.pointer lo.ptr)) := (Keep.refl (Only b) w1).setCell (p := ⟨b, 4, none⟩) (.inl rfl) _
      have hsz4 : l.size + lo.size < 1000000000 := by have := hps.out; omega
      refine (fresh_any (M1.keep S2 (M1.ne_node N1)) (N1.set4 lo.ptr) (L1.keep S2 hone (fun x hx e => n1 (e ▸ hx))) (hlo.keep S2 hone (fun x hx e => hblo (e ▸ hx))) n1 hblo hsz4).mono ?_
      rintro e w3 ⟨rfl, hrep, hk3⟩
      have hhi3 := hhi.keep (S2.trans hk3 (fun x e => .inl e)) hone (fun x hx e => hbhi (e ▸ hx))
      have hk := (hk1.mono (S' := In (AT.node b k v l r).blocks) (fun x hx => List.mem_cons_of_mem _ (List.mem_append_right _ hx))).trans (S2.trans hk3 (fun x e => .inl e)) (fun x e => .inl (by subst e; simp [In, AT.blocks]))
      have HF := Lib.hid (show _ ∧ _ ∧ _ from ⟨hrep, hhi3, hk⟩)
      clear hrep hhi3 hk hk3 S2 hone N1 L1 M1 hlo hhi hk1 H1
      go_wp2
      go_ret2
      exact ⟨rfl, HF.out⟩
    · have hnl : ¬ Lib.compareBytes k key < 0 := hlt
      generalize Lib.compareBytes k key = z at *
      have hsp : (AT.node b k v l r).split key = ((l.split key).1, .node b k v (l.split key).2 r) := by simp [AT.split, hlt]
      rw [hsp]
      have hsz2 : l.size < 1000000000 := by simp only [AT.size] at hsz; omega
      have hsz3 : l.size + r.size < 1000000000 := by simp only [AT.size] at hsz; omega
      have HL := Lib.hid (ihl w hm ht.2.1 n3 hk hsz2)
      have HC := Lib.hid hcmp
      have HT := Lib.hid ht
      have HM := Lib.hid hm
      have hp := Lib.hid (split_perm key l)
      have hps := Lib.hid (split_size key l)
      generalize l.split key = q at *
      obtain ⟨lo, hi⟩ := q
      clear hcmp hm ht ihl ihr hA hB hk hN hsp hlt hnd e1 e2 e4 e5 e6
      go_enter Try.func86, Try.ntmps86
      go_wp2_with fail
      refine HC.out.mono ?_
      rintro e w' ⟨rfl, rfl⟩
      go_wp2_with fail
      refine HL.out.mono ?_
      rintro e w1 ⟨rfl, hlo, hhi, hk1⟩
      have hml : ∀ x, In l.blocks x → Mut base w x := fun x hx => HT.out.2.1.mut x hx
      have N1 := HT.out.root.keep hk1 hml n1
      have R1 := HT.out.2.2.keep hk1 hml (fun x hx hy => n5 x hy hx)
      have M1 := HM.out.keep hk1 (HM.out.ne HT.out.2.1)
      obtain ⟨_, _, _, _, _, _, _, _, _, g3, _, _⟩ := N1.cells
      have f3 := N1.frozen 3
      have H1 := Lib.hid (show _ ∧ _ ∧ _ ∧ _ ∧ _ ∧ _ from ⟨N1, R1, M1, hlo, hhi, hk1⟩)
      clear N1 R1 M1 hlo hhi hk1 hml HC HL
      go_wp2_with fail
      obtain ⟨N1, R1, M1, hlo, hhi, hk1⟩ := H1.out
      have hlor : ∀ x, x ∈ lo.blocks → x ∈ l.blocks := fun x hx => hp.out.mem_iff.1 (List.mem_append_left _ hx)
      have hhir : ∀ x, x ∈ hi.blocks → x ∈ l.blocks := fun x hx => hp.out.mem_iff.1 (List.mem_append_right _ hx)
      have hblo : b ∉ lo.blocks := fun h => n1 (hlor b h)
      have hbhi : b ∉ hi.blocks := fun h => n1 (hhir b h)
      have hone : ∀ x, Only b x → Mut base w1 x := fun x e => e ▸ N1.mut
      have S2 : Keep (Only b) w1 (w1.setCell ⟨b, 3, none⟩ (.pointer hi.ptr)) := (Keep.refl (Only b) w1).setCell (p := ⟨b, 3, none⟩) (.inl rfl) _
      have hsz4 : hi.size + r.size < 1000000000 := by have := hps.out; omega
      refine (fresh_any (M1.keep S2 (M1.ne_node N1)) (N1.set3 hi.ptr) (hhi.keep S2 hone (fun x hx e => hbhi (e ▸ hx))) (R1.keep S2 hone (fun x hx e => n2 (e ▸ hx))) hbhi n2 hsz4).mono ?_
      rintro e w3 ⟨rfl, hrep, hk3⟩
      have hlo3 := hlo.keep (S2.trans hk3 (fun x e => .inl e)) hone (fun x hx e => hblo (e ▸ hx))
      have hk := (hk1.mono (S' := In (AT.node b k v l r).blocks) (fun x hx => List.mem_cons_of_mem _ (List.mem_append_left _ hx))).trans (S2.trans hk3 (fun x e => .inl e)) (fun x e => .inl (by subst e; simp [In, AT.blocks]))
      have HF := Lib.hid (show _ ∧ _ ∧ _ from ⟨hlo3, hrep, hk⟩)
      clear hrep hlo3 hk hk3 S2 hone N1 R1 M1 hlo hhi hk1 H1
      go_wp2
      go_ret2
      exact ⟨rfl, HF.out⟩

end Go.Proofs.Ytdmckjojeddaaaa
