/- Words of memory: rows of the call's own, bytes of the call's own, appends in drawn regions. Conditions: none. -/
import Derived.Test.YtgabidgpngiecaaGreatLK
import Derived.Laws.BytesArg
namespace Go.Proofs.YtgabidgpngiecaaGreatKit
open Go.RowKit

section
variable {P : Program} (w : World)
theorem step_append_any {ops : Array Oper} {o : Oper} {a : Act} {K : Act → World → Prop} {Q : Exit → Act → World → Prop} {E : Prop} (hgd : o.guard = none) (s x : Operand) (t : TypeId)
    (ho : o.op = .call { callee := .builtin .append, args := #[s, x], argTypes := #[t, t] })
    (base : Nat) (e : TypeId) (i : TypeInfo) (z : Value) (size bytes : Nat) (ht : P.underlying t = some (.slice e)) (hi : P.info? e = some i) (hz : i.zero = some z)
    (hsize : i.size = size) (hby : i.bytes = bytes) (hzs : z.cells.size = size) (hsz : 0 < size)
    (v : Value) (n : Nat) (xs : List Value) (hs : a.eval s = v) (hown : w.ownsRow base e size v n xs)
    (B : Nat) (A : Option Addr) (m c : Nat) (news : List Value) (hx : a.eval x = .slice A m c) (hr : Reads B w e size A m news) (h1 : ∀ u ∈ news, u.oneCell' = true)
    (h63 : n + m ≤ maxLen) (hbytes : (n + m) * bytes ≤ 140737488355328) (hbase : base ≤ w.heap.size)
    (h : ∀ v' w', w'.ownsRow base e size v' (n + m) (xs ++ news) → w.grownBy w' v.ownBlock → (v'.ownBlock = v.ownBlock ∨ v'.ownBlock = some w.heap.size) → K (a.put o.dst v') w') :
    if Region.wanted o (yielded ops a.tmps) = true then Oper.wp P o a w K Q else E := by
  have hw : Region.wanted o (yielded ops a.tmps) = true := by simp [Region.wanted, hgd]
  rw [if_pos hw]
  exact wp_append_any w s x t ho base e i z size bytes ht hi hz hsize hby hzs hsz v n xs hs hown B A m c news hx hr h1 h63 hbytes hbase h
end
theorem rec_new {base : Nat} {w : World} {e : TypeId} {cs : List Value} (he : mutTy e = false) : Reads base (w.alloc (.cells cs.toArray e)) e cs.length (some ⟨w.heap.size, 0, none⟩) 1 cs := by
  have hB := Blk.new w e cs.toArray
  refine ⟨by simp, fun _ => ⟨_, rfl, hB.imm he, fun j u hu => ?_⟩⟩
  have := hB.cell j
  rw [Addr.add_lit, Nat.zero_add, this]
  simpa using hu
theorem reads_one (w : World) (t : TypeId) (v u : Value) (ht : mutTy t = false) (h : v = u) {base : Nat} : Reads base (w.alloc (.cells #[v] t)) t 1 (some ⟨w.heap.size, 0, none⟩) 1 [u] := by
  subst h
  exact ⟨rfl, (rec_new (base := base) (w := w) (e := t) (cs := [v]) ht).2⟩
theorem reads_two (w : World) (t : TypeId) (v v' u u' : Value) (ht : mutTy t = false) (h : v = u) (h' : v' = u') {base : Nat} : Reads base (w.alloc (.cells #[v, v'] t)) t 1 (some ⟨w.heap.size, 0, none⟩) 2 [u, u'] := by
  subst h; subst h'
  exact ⟨rfl, fun _ => (rec_new (base := base) (w := w) (e := t) (cs := [v, v']) ht).2 (by omega)⟩
theorem reads_one' (w : World) (t : TypeId) (v u : Value) (ht : mutTy t = false) (h : v = u) {base : Nat} : Reads base (w.alloc (.cells #[v] t)).drew t 1 (some ⟨w.heap.size, 0, none⟩) 1 [u] := reads_one w t v u ht h
theorem reads_two' (w : World) (t : TypeId) (v v' u u' : Value) (ht : mutTy t = false) (h : v = u) (h' : v' = u') {base : Nat} : Reads base (w.alloc (.cells #[v, v'] t)).drew t 1 (some ⟨w.heap.size, 0, none⟩) 2 [u, u'] := reads_two w t v v' u u' ht h h'
/-- Rows of unlike types lie in unlike blocks. -/
theorem own_own_ne {w : World} {b b' e e' size size' n n' : Nat} {v v' : Value} {xs xs' : List Value} (h : w.ownsRow b e size v n xs) (h' : w.ownsRow b' e' size' v' n' xs') (hne : e ≠ e') : ∀ k, v.ownBlock = some k → v'.ownBlock ≠ some k := by
  intro k hk hk'
  rcases h.2 with ⟨rfl, _⟩ | ⟨g, cap, cur, rfl, _, h4, _⟩
  · cases hk
  · rcases h'.2 with ⟨rfl, _⟩ | ⟨g', cap', cur', rfl, _, h4', _⟩
    · cases hk'
    · simp [Value.ownBlock] at hk hk'
      subst hk; subst hk'
      rw [h4] at h4'
      injection h4' with h4'
      injection h4' with _ h5
      exact hne h5
theorem own_blk_ne {w : World} {b e size n g : Nat} {t : TypeId} {cs : Array Value} {v : Value} {xs : List Value} (h : w.ownsRow b e size v n xs) (h' : Blk w g t cs) (hne : e ≠ t) : v.ownBlock ≠ some g := by
  intro hk
  rcases h.2 with ⟨rfl, _⟩ | ⟨g', cap, cur, rfl, _, h4, _⟩
  · cases hk
  · simp [Value.ownBlock] at hk
    subst hk
    unfold Blk at h'
    rw [h4] at h'
    injection h' with h'
    injection h' with _ h5
    exact hne h5
theorem own_shape {w : World} {b e size n : Nat} {v : Value} {xs : List Value} (h : w.ownsRow b e size v n xs) : ∃ A c, v = .slice A n c ∧ n ≤ c := by
  rcases h.2 with ⟨rfl, rfl⟩ | ⟨g, cap, cur, rfl, _, _, hn, _⟩
  · exact ⟨none, 0, rfl, Nat.le_refl _⟩
  · exact ⟨_, _, rfl, hn⟩
theorem own_weak {w : World} {b b' e size n : Nat} {v : Value} {xs : List Value} (h : w.ownsRow b e size v n xs) (hb : b' ≤ b) : w.ownsRow b' e size v n xs := by
  refine ⟨h.1, ?_⟩
  rcases h.2 with h2 | ⟨g, cap, cur, h2, h3, h4⟩
  · exact .inl h2
  · exact .inr ⟨g, cap, cur, h2, Nat.le_trans hb h3, h4⟩

/-! ### Bytes of the call's own -/
def byt (x : Int) : UInt8 := UInt8.ofNat (x % 256).toNat
theorem byt_toNat (x : Int) : ((byt x).toNat : Int) = x % 256 := by
  unfold byt
  simp
  omega
theorem byt_val (x : Int) : Value.int .u8 (IntKind.u8.wrap x) = byteV (byt x) := by rw [byteV, byt_toNat]; rfl
theorem byt_mod (x : Int) : Value.int .u8 (x % 256) = byteV (byt x) := by rw [byteV, byt_toNat]
theorem byt_low {x : Int} (h0 : 0 ≤ x) (h1 : x < 256) : Value.int .u8 x = byteV (byt x) := by rw [byteV, byt_toNat, Int.emod_eq_of_lt h0 h1]
def OB (B : Nat) (w : World) (v : Value) (ys : List UInt8) : Prop := w.ownsRow B 5 1 v ys.length (byteVs ys)
section
variable {B : Nat} {w w1 w2 : World} {v v1 : Value} {ys zs : List UInt8} {S : Nat → Prop}
theorem OB.keep (h : OB B w v ys) (hk : Keep S w w1) (hs : ∀ k, v.ownBlock = some k → ¬ S k) : OB B w1 v ys := own_keep h hk hs
theorem OB.new_ (h : OB B w v ys) (hk : Keep No w w1) : OB B w1 v ys := h.keep hk (fun _ _ x => x)
theorem OB.alloc (h : OB B w v ys) (o : Obj) : OB B (w.alloc o) v ys := h.new_ ((Keep.refl _ _).alloc o)
theorem OB.start (B : Nat) (w : World) : OB B w (.slice none 0 0) [] := World.ownsRow_nil _ _ _ _
theorem OB.push {n : Nat} (h1 : w1.ownsRow B 5 1 v1 (ys.length + n) (byteVs ys ++ byteVs zs)) (hl : zs.length = n) : OB B w1 v1 (ys ++ zs) := by
  subst hl
  unfold OB
  rw [List.length_append, byteVs_append]
  exact h1
theorem OB.shape (h : OB B w v ys) : ∃ A c, v = .slice A ys.length c ∧ ys.length ≤ c := own_shape h
theorem OB.bytes {A : Option Addr} {n c base : Nat} (h : OB B w (.slice A n c) ys) : Bytes base w A n ys := by
  obtain ⟨A', c', e, _⟩ := own_shape h
  injection e with _ e _
  subst e
  exact Reads.of_own h rfl
theorem OB.lt (h : OB B w v ys) : ∀ k, v.ownBlock = some k → B ≤ k ∧ k < w.heap.size := World.ownsRow.lt h
theorem OB.len {A : Option Addr} {n c : Nat} (h : OB B w (.slice A n c) ys) : n = ys.length := by
  obtain ⟨A', c', e, _⟩ := own_shape h
  injection e
end

/-- string(b). -/
theorem Bytes.conv {P : Program} {base : Nat} {w : World} {A : Option Addr} {n : Nat} {bs : List UInt8} (h : Bytes base w A n bs) (c : Nat) {src e dst : TypeId} (hs : P.underlying src = some (.slice e)) (he : P.underlying e = some (.int .u8)) (hd : P.underlying dst = some .string) :
    (convert src dst (.slice A n c)).run P w = .ok (.string ⟨bs.toArray⟩) w := by
  have hl := h.len
  have hnil : n = 0 → bs = [] := fun e => List.eq_nil_of_length_eq_zero (by omega)
  rcases A with _ | ad
  · have h0 : n = 0 := by
      rcases Nat.eq_zero_or_pos n with h0 | h0
      · exact h0
      · obtain ⟨ad, e, _⟩ := h.2 h0
        cases e
    rw [hnil h0, run_convert_bytes_nil w src e hs he n c dst hd]
    rfl
  · have hc : ∀ j u, (byteVs bs)[j]? = some u → w.cell? (ad.add j) = some u := by
      intro j u hu
      rcases Nat.eq_zero_or_pos n with h0 | h0
      · rw [hnil h0] at hu
        simp [byteVs] at hu
      · obtain ⟨ad', e, _, hc⟩ := h.2 h0
        injection e with e
        subst e
        exact hc j u hu
    have hlc := run_loadCells_list (P := P) w ad (byteVs bs) hc
    rw [byteVs_length, hl] at hlc
    have e1 : byteVs bs = (bs.map fun b => (b.toNat : Int)).map (Value.int .u8) := by rw [List.map_map]; rfl
    rw [e1] at hlc
    rw [run_convert_bytes_string w src dst e _ n c hs he hd, run_bytesToString w _ n c _ hlc, foldl_push_bytes]
    have e2 : ((bs.map fun b => (b.toNat : Int)).map fun n => UInt8.ofNat n.toNat) = bs := by
      rw [List.map_map]
      conv => rhs; rw [← List.map_id bs]
      exact List.map_congr_left fun b _ => by simp
    rw [e2]
    simp [ByteArray.empty, ByteArray.emptyWithCapacity]
    rfl
end Go.Proofs.YtgabidgpngiecaaGreatKit
