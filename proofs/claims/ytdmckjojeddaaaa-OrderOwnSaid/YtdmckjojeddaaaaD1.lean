/- Contracts of order's Get, Rank, Drop. Conditions: each names its own. -/
import Derived.Test.YtdmckjojeddaaaaU3
import Derived.Test.YtdmckjojeddaaaaP6
namespace Go.Proofs.Ytdmckjojeddaaaa
open Go.RowKit Go.Proofs.YtdmckjojeddaaaaKit Go.Proofs.YtdmckjojeddaaaaPlain

/-- What Get hands back: the value in blocks of its own, or that there is none. -/
def MGot (w : World) (o : Option (List UInt8)) (e : Ending) (w' : World) : Prop :=
  Keep No w w' ∧ match o with
    | none => e = .returned (.tuple #[.slice none 0 0, .int .i64 3])
    | some v => ∃ A c, e = .returned (.tuple #[.slice A v.length c, .int .i64 0]) ∧ v.length ≤ c ∧ w'.ownsRow w.heap.size 5 1 (.slice A v.length c) v.length (byteVs v)

set_option maxHeartbeats 1000000 in
set_option maxRecDepth 100000 in
theorem mget_any {base : Nat} {w : World} {seed : Int} {mb : Nat} {l : PairL} {F : List Nat} {A : Option Addr} {n c : Nat} {key : List UInt8} (h : MSt base w mb seed l F) (hk : Bytes base w A n key) :
    Calls Try.prog 55 #[.pointer (some ⟨mb, 0, none⟩), .slice A n c] w (MGot w (getL l key)) := by
  obtain ⟨t, hO, hwf, rfl, rfl⟩ := h
  rw [getL_find hwf.sorted]
  have HF := Lib.hid (find_any (c := c) hO.has hO.rep hk)
  clear hO hwf hk
  cases hf : t.find key with
  | nil =>
    rw [hf] at HF
    clear hf
    go_enter Try.func55, Try.ntmps55
    go_wp2_with (go_at_call 82; refine HF.out.mono ?_; rintro e w' ⟨rfl, rfl, _⟩; rw [ptr_nil])
    go_ret2
    exact ⟨Keep.refl _ _, rfl⟩
  | node b k v lt rt =>
    rw [hf] at HF
    clear hf
    go_enter Try.func55, Try.ntmps55
    go_wp2_with fail
    refine HF.out.mono ?_
    rintro e w' ⟨rfl, rfl, hr⟩
    rw [ptr_node]
    obtain ⟨_, _, B, d, _, hB, _, c1, _⟩ := hr.root.cells
    have hv := hr.root.2.1.2.2
    have HB := Lib.hid hB
    clear hr hB HF
    go_wp2_with fail
    refine (bclone B _ d v w HB.out (by omega)).mono ?_
    rintro e w1 ⟨A1, c1', rfl, hc1, ho1, hk1⟩
    have HO := Lib.hid (show _ ∧ _ ∧ _ from ⟨hc1, ho1, hk1⟩)
    clear hc1 ho1 hk1
    go_wp2
    go_ret2
    exact ⟨HO.out.2.2, A1, c1', rfl, HO.out.1, HO.out.2.1⟩

set_option maxHeartbeats 1000000 in
set_option maxRecDepth 100000 in
theorem mrank_any {base : Nat} {w : World} {seed : Int} {mb : Nat} {l : PairL} {F : List Nat} {A : Option Addr} {n c : Nat} {key : List UInt8} (h : MSt base w mb seed l F) (hk : Bytes base w A n key) (hsz : l.length ≤ 900000) :
    Calls Try.prog 58 #[.pointer (some ⟨mb, 0, none⟩), .slice A n c] w fun e w' => e = .returned (.int .i64 (rank key l : Nat)) ∧ w = w' := by
  obtain ⟨t, hO, hwf, rfl, rfl⟩ := h
  rw [toList_length] at hsz
  have HR := Lib.hid (real_any hO.has)
  obtain ⟨_, _, m2⟩ := hO.has.cells
  have HT := Lib.hid (show _ ∧ _ ∧ _ from ⟨hO.rep, hk, hwf.sorted⟩)
  clear hO hk hwf
  obtain ⟨rk, hrk⟩ : ∃ rk, rk = rank key t.toList := ⟨_, rfl⟩
  have HRK := Lib.hid hrk
  rw [← hrk]
  clear hrk
  go_enter Try.func58, Try.ntmps58
  go_wp2_with (go_at_call 64; refine HR.out.mono ?_; rintro e w' ⟨rfl, rfl⟩)
  go_loopg [5, 6] t.size (fun m v5 v6 wr => ∃ (s : AT) (acc : Nat), v6 = .pointer s.ptr ∧ v5 = .int .i64 (acc : Nat) ∧ acc + s.size ≤ t.size ∧ Hid (s.size = m) ∧ Hid (rk = acc + rank key s.toList) ∧ Hid (Rep base w seed s) ∧ Hid (Sorted s.toList) ∧ Hid (w = wr))
  case atStart => exact ⟨t, 0, rfl, rfl, by omega, Lib.hid rfl, Lib.hid (by rw [HRK.out]; omega), Lib.hid HT.out.1, Lib.hid HT.out.2.2, Lib.hid rfl⟩
  case round =>
    obtain ⟨s, acc, rfl, rfl, has, hg, hs, hr, hso, hwr⟩ := hrel
    obtain rfl := hwr.out
    cases s with
    | nil =>
      rw [ptr_nil]
      have he := Lib.hid (show ((acc : Nat) : Int) = ((rk : Nat) : Int) from by rw [hs.out]; simp [AT.toList, rank])
      clear hs
      go_wp2
      go_ret
      exact ⟨ret_u64 he.out, rfl⟩
    | node b k v lt rt =>
      rw [ptr_node]
      obtain ⟨A1, c1, _, _, hA, _, e0, _, _, e3, e4, _⟩ := hr.out.root.cells
      have hcmp := bcompare A1 A _ c1 n c k key w hA HT.out.2.1
      have HC1 := Lib.hid (count_any hr.out.2.1)
      have hszn : acc + (1 + lt.size + rt.size) ≤ t.size := has
      obtain ⟨h1, h2, _, _, _⟩ := sorted_node hso.out
      have HSS := Lib.hid (show _ ∧ _ from ⟨h1, h2⟩)
      clear hA h1 h2 has
      by_cases hlt : Lt k key
      · rw [cb_lt hlt] at hcmp
        have hs2 := Lib.hid (show rk = (acc + (1 + lt.size)) + rank key rt.toList from by rw [hs.out, rank_node_lt hso.out hlt, toList_length]; omega)
        have HC := Lib.hid hcmp
        have hlt2 : rt.size < gk := by have := hg.out; simp only [AT.size] at this; omega
        clear hcmp hs hlt
        go_wp2_with (first | (go_at_call 61; refine HC.out.mono ?_; rintro e w' ⟨rfl, rfl⟩) | (go_at_call 68; refine HC1.out.mono ?_; rintro e w' ⟨rfl, rfl⟩))
        go_roundg rt.size
        case measure => omega
        case rel => exact ⟨rt, acc + (1 + lt.size), rfl, by push_cast; rfl, by omega, Lib.hid rfl, hs2, Lib.hid hr.out.2.2, Lib.hid HSS.out.2, Lib.hid rfl⟩
      · have hs2 := Lib.hid (show rk = acc + rank key lt.toList from by rw [hs.out, rank_node_ge hlt])
        have hge : 0 ≤ Lib.compareBytes k key := by have : ¬ Lib.compareBytes k key < 0 := hlt; omega
        have hge2 : ¬ Lib.compareBytes k key < 0 := hlt
        have hlt2 : lt.size < gk := by have := hg.out; simp only [AT.size] at this; omega
        generalize Lib.compareBytes k key = z at *
        have HC := Lib.hid hcmp
        clear hcmp hs hlt
        go_wp2_with (go_at_call 61; refine HC.out.mono ?_; rintro e w' ⟨rfl, rfl⟩)
        go_roundg lt.size
        case measure => omega
        case rel => exact ⟨lt, acc, rfl, rfl, by omega, Lib.hid rfl, hs2, Lib.hid hr.out.2.1, Lib.hid HSS.out.1, Lib.hid rfl⟩
end Go.Proofs.Ytdmckjojeddaaaa

namespace Go.Proofs.Ytdmckjojeddaaaa
open Go.RowKit Go.Proofs.YtdmckjojeddaaaaKit Go.Proofs.YtdmckjojeddaaaaPlain

def MDropped (base : Nat) (w : World) (mb : Nat) (seed : Int) (l : PairL) (F : List Nat) (key : List UInt8) (e : Ending) (w' : World) : Prop :=
  (hasL key l = false → e = .returned (.int .i64 3) ∧ w = w') ∧ (hasL key l = true → e = .returned (.int .i64 0) ∧ Changed base w mb seed (dropL l key) F w')

set_option maxHeartbeats 1000000 in
set_option maxRecDepth 100000 in
theorem mdrop_any {base : Nat} {w : World} {seed : Int} {mb : Nat} {l : PairL} {F : List Nat} {A : Option Addr} {n c : Nat} {key : List UInt8} (h : MSt base w mb seed l F) (hk : Bytes base w A n key) (hsz : l.length ≤ 900000) :
    Calls Try.prog 44 #[.pointer (some ⟨mb, 0, none⟩), .slice A n c] w (MDropped base w mb seed l F key) := by
  obtain ⟨t, hO, hwf, rfl, rfl⟩ := h
  rw [toList_length] at hsz
  have HR := Lib.hid (real_any hO.has)
  have HF := Lib.hid (find_any (c := c) hO.has hO.rep hk)
  rcases find_has (key := key) hwf.sorted with ⟨h1, h2⟩ | ⟨b, v, lt, rt, h1, h2, _⟩
  · rw [h1] at HF
    have HH := Lib.hid h2
    clear hO hwf hk h1 h2
    go_enter Try.func44, Try.ntmps44
    go_wp2_with (first
      | (go_at_call 64; refine HR.out.mono ?_; rintro e w' ⟨rfl, rfl⟩)
      | (go_at_call 82; refine HF.out.mono ?_; rintro e w' ⟨rfl, rfl, _⟩; rw [ptr_nil]))
    go_ret
    exact ⟨fun _ => ⟨rfl, rfl⟩, fun e => by rw [HH.out] at e; cases e⟩
  · have HD := Lib.hid (drop_any (base := base) (seed := seed) (mb := mb) (root := t.ptr) (A := A) (n := n) (c := c) (key := key) t w hO.has hO.rep hO.nodup hk (by rw [h1]; simp) (by omega))
    rw [h1] at HF
    have HH := Lib.hid h2
    have HE := Lib.hid (show _ ∧ _ ∧ _ from ⟨hO, drop_wf (key := key) hwf, drop_list (seed := seed) (key := key) hwf.sorted⟩)
    obtain ⟨_, _, m2⟩ := hO.has.cells
    clear hO hwf hk h1 h2
    go_enter Try.func44, Try.ntmps44
    go_wp2_with (first
      | (go_at_call 64; refine HR.out.mono ?_; rintro e w' ⟨rfl, rfl⟩)
      | (go_at_call 82; refine HF.out.mono ?_; rintro e w' ⟨rfl, rfl, _⟩; rw [ptr_node]))
    refine HD.out.mono ?_
    rintro e w3 ⟨rfl, hr3, hk3⟩
    have hO := HE.out.1
    have hmt : ∀ x, In t.blocks x → Mut base w x := fun x hx => hO.rep.mut x hx
    have M3 := hO.has.keep hk3 (hO.has.ne hO.rep)
    have f2 := M3.2.frozen 2
    have g2 := M3.cells.2.2
    have H3 := Lib.hid (show _ ∧ _ ∧ _ from ⟨M3, hr3, hk3⟩)
    clear HD M3 hr3 hk3 hmt hO m2
    go_wp2
    go_ret
    obtain ⟨M3, hr3, hk3⟩ := H3.out
    have S4 : Keep (Only mb) w3 (w3.setCell ⟨mb, 2, none⟩ (.pointer (t.drop seed key).ptr)) := (Keep.refl (Only mb) w3).setCell (p := ⟨mb, 2, none⟩) (.inl rfl) _
    refine ⟨fun e => by rw [HH.out] at e; (cases e), fun _ => ⟨rfl, mb :: (t.drop seed key).blocks, ⟨t.drop seed key, ⟨⟨M3.1, M3.2.set_ 2 _⟩, hr3.keep S4 (fun x e => e ▸ M3.mut) (fun x hx e => ?_), drop_nodup HE.out.1.nodup⟩, HE.out.2.1, HE.out.2.2, rfl⟩, ?_, fun x hx => ?_⟩⟩
    · subst e
      exact M3.ne hr3 hx
    · exact (hk3.mono (S' := In (mb :: t.blocks)) (fun x h => List.mem_cons_of_mem _ h)).trans S4 (fun x e => .inl (e ▸ List.mem_cons_self))
    · rcases List.mem_cons.1 hx with rfl | hx
      · exact .inl List.mem_cons_self
      · exact .inl (List.mem_cons_of_mem _ (drop_mem hx))
end Go.Proofs.Ytdmckjojeddaaaa
