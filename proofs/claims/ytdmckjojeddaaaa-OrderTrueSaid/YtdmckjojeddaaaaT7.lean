/- Contract of order's drop. Conditions: it names its own. -/
import Derived.Test.YtdmckjojeddaaaaT6
namespace Go.Proofs.Ytdmckjojeddaaaa
open Go.RowKit Go.Proofs.YtdmckjojeddaaaaKit Go.Proofs.YtdmckjojeddaaaaPlain

set_option maxHeartbeats 4000000 in
set_option maxRecDepth 100000 in
theorem drop_any {base : Nat} {seed : Int} {mb : Nat} {root : Option Addr} {A : Option Addr} {n c : Nat} {key : List UInt8} (t : AT) : ∀ (w : World), MapHas base w mb seed root → Rep base w seed t → t.blocks.Nodup → Bytes base w A n key → t.find key ≠ .nil → t.size < 900000000 →
    Calls Try.prog 85 #[.pointer (some ⟨mb, 0, none⟩), .pointer t.ptr, .slice A n c] w fun e w' =>
      e = .returned (.pointer (t.drop seed key).ptr) ∧ Rep base w' seed (t.drop seed key) ∧ Keep (In t.blocks) w w' := by
  induction t with
  | nil => intro w _ _ _ _ h _; exact absurd rfl h
  | node b k v l r ihl ihr =>
    intro w hm ht hnd hk hfd hsz
    obtain ⟨n1, n2, n3, n4, n5⟩ := nodup_node hnd
    have hN := ht.root
    obtain ⟨A1, c1, B1, d1, hA, hB, e0, e1, e2, e3, e4, e5, e6⟩ := hN.cells
    have hcmp := bcompare A A1 _ c _ c1 key k w hk hA
    rw [ptr_node]
    have hbs := hN.lt
    by_cases hkk : key = k
    · have e9 : (AT.node b k v l r).drop seed key = AT.merge seed l r := by rw [AT.drop, if_pos hkk]
      rw [e9]
      rw [cb_eq.2 hkk] at hcmp
      have hd := (Keep.refl No w).drew
      have HI := Lib.hid (merge_any (base := base) (seed := seed) (mb := mb) (root := root) _ l r w.drew (Nat.le_refl _) (hm.keep hd (fun x => x)) (ht.2.1.new_ hd) (ht.2.2.new_ hd) n3 n4 n5 (by simp only [AT.size] at hsz; omega))
      generalize AT.merge seed l r = q at *
      have HC := Lib.hid hcmp
      clear hcmp hm ht hA hB hN e9 ihl ihr hkk hnd e1 e2 e5 e6 hfd hk hd
      go_enter Try.func85, Try.ntmps85
      go_wp2_with (go_at_call 61; refine HC.out.mono ?_; rintro e w' ⟨rfl, rfl⟩)
      clear HC e0
      go_region_held3 (fun w' => w'.cell? ⟨b, 3, none⟩ = some (.pointer l.ptr) ∧ w'.cell? ⟨b, 4, none⟩ = some (.pointer r.ptr))
        (first
          | exact ⟨(hkd.cell (p := ⟨b, 3, none⟩) hbs (fun h => (List.mem_append.1 h).elim n1 n2)).trans e3, (hkd.cell (p := ⟨b, 4, none⟩) hbs (fun h => (List.mem_append.1 h).elim n1 n2)).trans e4⟩
          | exact ⟨e3, e4⟩
          | go_keep)
        (first
          | (go_at_call 87; refine HI.out.mono ?_; rintro e w2 ⟨rfl, hq, hkd⟩))
      have HF := Lib.hid (show _ ∧ _ from ⟨hq, (hkd.of_drew).mono (S' := In (AT.node b k v l r).blocks) (fun x h => List.mem_cons_of_mem _ h)⟩)
      clear hq hkd HI
      go_wp2
      go_ret
      exact ⟨rfl, HF.out⟩
    · have hcz : (Lib.compareBytes key k == 0) = false := by simp [cb_eq, hkk]
      by_cases hlt : Lt key k
      · have e9 : (AT.node b k v l r).drop seed key = .node b k v (l.drop seed key) r := by rw [AT.drop, if_neg hkk, if_pos hlt]
        have hf9 : l.find key ≠ .nil := by rwa [AT.find, if_neg hkk, if_pos hlt] at hfd
        rw [e9, ptr_node]
        have HI := Lib.hid (ihl w hm ht.2.1 n3 hk hf9 (by simp only [AT.size] at hsz; omega))
        have hpm := Lib.hid (fun x (h : x ∈ (l.drop seed key).blocks) => drop_mem h)
        have hps := Lib.hid (drop_size seed key l)
        have hsz3 : l.size + r.size < 900000000 := by simp only [AT.size] at hsz; omega
        generalize l.drop seed key = q at *
        have hbq : b ∉ q.blocks := fun h => n1 (hpm.out b h)
        have hcl : Lib.compareBytes key k < 0 := hlt
        generalize Lib.compareBytes key k = z at *
        have HC := Lib.hid hcmp
        have HT := Lib.hid (show _ ∧ _ from ⟨hm, ht⟩)
        clear hcmp hm ht hA hB hN e9 hf9 ihl ihr hkk hlt hnd e1 e2 e4 e5 e6 hfd hk
        go_enter Try.func85, Try.ntmps85
        go_wp2_with fail
        refine HC.out.mono ?_
        rintro e w' ⟨rfl, rfl⟩
        go_wp2_with fail
        refine HI.out.mono ?_
        rintro e w3 ⟨rfl, hqr, hk3⟩
        have hmt : ∀ x, In l.blocks x → Mut base w x := fun x hx => HT.out.2.2.1.mut x hx
        have N3 := HT.out.2.root.keep hk3 hmt n1
        have O3 := HT.out.2.2.2.keep hk3 hmt (fun x hx h => n5 x h hx)
        have M3 := HT.out.1.keep hk3 (HT.out.1.ne HT.out.2.2.1)
        obtain ⟨_, _, _, _, _, _, _, _, _, g3, g4, _⟩ := N3.cells
        have f3 := N3.frozen 3
        have H3 := Lib.hid (show _ ∧ _ ∧ _ ∧ _ ∧ _ from ⟨N3, O3, M3, hqr, hk3⟩)
        clear HT HI HC N3 O3 M3 hqr hk3 hmt g4
        go_wp2_with fail
        obtain ⟨N3, O3, M3, hqr, hk3⟩ := H3.out
        have hone : ∀ x, Only b x → Mut base w3 x := fun x e => e ▸ N3.mut
        have S4 : Keep (Only b) w3 (w3.setCell ⟨b, 3, none⟩ (.pointer q.ptr)) := (Keep.refl (Only b) w3).setCell (p := ⟨b, 3, none⟩) (.inl rfl) _
        refine (fresh_any (M3.keep S4 (M3.ne_node N3)) (N3.set3 q.ptr) (hqr.keep S4 hone (fun x hx e => hbq (e ▸ hx))) (O3.keep S4 hone (fun x hx e => n2 (e ▸ hx))) hbq n2 (by have := hps.out; omega)).mono ?_
        rintro e w5 ⟨rfl, hrep, hk5⟩
        have hk := (hk3.mono (S' := In (AT.node b k v l r).blocks) (fun x h => List.mem_cons_of_mem _ (List.mem_append_left _ h))).trans (S4.trans hk5 (fun x e => .inl e)) (fun x e => .inl (by subst e; simp [In, AT.blocks]))
        have HF := Lib.hid (show _ ∧ _ from ⟨hrep, hk⟩)
        clear hrep hk hk5 S4 hone N3 O3 M3 hqr hk3 H3
        go_wp2
        go_ret
        exact ⟨rfl, HF.out⟩
      · have e9 : (AT.node b k v l r).drop seed key = .node b k v l (r.drop seed key) := by rw [AT.drop, if_neg hkk, if_neg hlt]
        have hf9 : r.find key ≠ .nil := by rwa [AT.find, if_neg hkk, if_neg hlt] at hfd
        rw [e9, ptr_node]
        have HI := Lib.hid (ihr w hm ht.2.2 n4 hk hf9 (by simp only [AT.size] at hsz; omega))
        have hpm := Lib.hid (fun x (h : x ∈ (r.drop seed key).blocks) => drop_mem h)
        have hps := Lib.hid (drop_size seed key r)
        have hsz3 : l.size + r.size < 900000000 := by simp only [AT.size] at hsz; omega
        generalize r.drop seed key = q at *
        have hbq : b ∉ q.blocks := fun h => n2 (hpm.out b h)
        have hcl : ¬ Lib.compareBytes key k < 0 := hlt
        generalize Lib.compareBytes key k = z at *
        have HC := Lib.hid hcmp
        have HT := Lib.hid (show _ ∧ _ from ⟨hm, ht⟩)
        clear hcmp hm ht hA hB hN e9 hf9 ihl ihr hkk hlt hnd e1 e2 e3 e5 e6 hfd hk
        go_enter Try.func85, Try.ntmps85
        go_wp2_with fail
        refine HC.out.mono ?_
        rintro e w' ⟨rfl, rfl⟩
        go_wp2_with fail
        refine HI.out.mono ?_
        rintro e w3 ⟨rfl, hqr, hk3⟩
        have hmt : ∀ x, In r.blocks x → Mut base w x := fun x hx => HT.out.2.2.2.mut x hx
        have N3 := HT.out.2.root.keep hk3 hmt n2
        have O3 := HT.out.2.2.1.keep hk3 hmt (fun x hx h => n5 x hx h)
        have M3 := HT.out.1.keep hk3 (HT.out.1.ne HT.out.2.2.2)
        obtain ⟨_, _, _, _, _, _, _, _, _, g3, g4, _⟩ := N3.cells
        have f4 := N3.frozen 4
        have H3 := Lib.hid (show _ ∧ _ ∧ _ ∧ _ ∧ _ from ⟨N3, O3, M3, hqr, hk3⟩)
        clear HT HI HC N3 O3 M3 hqr hk3 hmt g3
        go_wp2_with fail
        obtain ⟨N3, O3, M3, hqr, hk3⟩ := H3.out
        have hone : ∀ x, Only b x → Mut base w3 x := fun x e => e ▸ N3.mut
        have S4 : Keep (Only b) w3 (w3.setCell ⟨b, 4, none⟩ (.pointer q.ptr)) := (Keep.refl (Only b) w3).setCell (p := ⟨b, 4, none⟩) (.inl rfl) _
        refine (fresh_any (M3.keep S4 (M3.ne_node N3)) (N3.set4 q.ptr) (O3.keep S4 hone (fun x hx e => n1 (e ▸ hx))) (hqr.keep S4 hone (fun x hx e => hbq (e ▸ hx))) n1 hbq (by have := hps.out; omega)).mono ?_
        rintro e w5 ⟨rfl, hrep, hk5⟩
        have hk := (hk3.mono (S' := In (AT.node b k v l r).blocks) (fun x h => List.mem_cons_of_mem _ (List.mem_append_right _ h))).trans (S4.trans hk5 (fun x e => .inl e)) (fun x e => .inl (by subst e; simp [In, AT.blocks]))
        have HF := Lib.hid (show _ ∧ _ from ⟨hrep, hk⟩)
        clear hrep hk hk5 S4 hone N3 O3 M3 hqr hk3 H3
        go_wp2
        go_ret
        exact ⟨rfl, HF.out⟩

end Go.Proofs.Ytdmckjojeddaaaa
