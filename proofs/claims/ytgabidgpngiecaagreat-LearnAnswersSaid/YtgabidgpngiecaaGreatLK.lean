/- Words of memory: slices that read as lists, bytes, appends, records. Conditions: none. -/
import Derived.Test.YtgabidgpngiecaaGreatK1
import Derived.WalkKit
import Derived.WalkSpells
import Derived.WalkLawsBesides
import Derived.Deep.Draws
import Derived.Deep.AppendLies
import Derived.Maps.AppendAt
import Derived.Lib.Bytealg
import Derived.Lib.BytesEntry
import Derived.Lib.Hide
namespace Go.Proofs.YtgabidgpngiecaaGreatKit
open Go.RowKit

/-! ### 3. Blocks that nobody writes: those below base, and those of no type that is written behind pointers -/
def mutTy (t : TypeId) : Bool := t == 43 || t == 79 || t == 85 || t == 106
def Mut (base : Nat) (w : World) (k : Nat) : Prop := base ≤ k ∧ ∃ cs t f, w.heap[k]? = some (.cells cs t f) ∧ mutTy t = true
/-- Block k, of element type e, is below base or of just that type, and of no type that is written behind pointers. -/
def Imm (base e : Nat) (w : World) (k : Nat) : Prop := mutTy e = false ∧ k < w.heap.size ∧ (k < base ∨ ∃ cs f, w.heap[k]? = some (.cells cs e f))
/-- Blocks from base on of other types. -/
def Off (base e : Nat) (w : World) (S : Nat → Prop) : Prop := ∀ b, S b → base ≤ b ∧ ∃ cs t f, w.heap[b]? = some (.cells cs t f) ∧ t ≠ e
section
variable {S : Nat → Prop} {base e : Nat} {w w1 : World}
theorem Blk.mut {g : Nat} {t : TypeId} {cs : Array Value} (h : Blk w g t cs) (hb : base ≤ g) (ht : mutTy t = true) : Mut base w g := ⟨hb, cs, t, _, h, ht⟩
theorem Blk.imm {g : Nat} {t : TypeId} {cs : Array Value} (h : Blk w g t cs) (ht : mutTy t = false) : Imm base t w g := ⟨ht, h.lt, .inr ⟨cs, _, h⟩⟩
theorem Imm.old {k : Nat} (he : mutTy e = false) (hk : k < base) (h : k < w.heap.size) : Imm base e w k := ⟨he, h, .inl hk⟩
theorem Imm.lt {k : Nat} (h : Imm base e w k) : k < w.heap.size := h.2.1
theorem Imm.same {k : Nat} (h : Imm base e w k) (hs : w1.heap[k]? = w.heap[k]?) (hz : w.heap.size ≤ w1.heap.size) : Imm base e w1 k :=
  ⟨h.1, Nat.lt_of_lt_of_le h.2.1 hz, h.2.2.imp id (fun ⟨cs, f, hh⟩ => ⟨cs, f, hs.trans hh⟩)⟩
theorem Imm.off {k : Nat} (h : Imm base e w k) (ho : Off base e w S) : ¬ S k := by
  intro hs
  obtain ⟨hb, cs, t, f, hh, ht⟩ := ho k hs
  rcases h.2.2 with h1 | ⟨cs', f', h1⟩
  · omega
  · rw [hh] at h1
    injection h1 with h1
    injection h1 with _ h1
    exact ht h1
theorem Off.of_mut (he : mutTy e = false) (h : ∀ b, S b → Mut base w b) : Off base e w S := fun b hb => by
  obtain ⟨h1, cs, t, f, hh, ht⟩ := h b hb
  exact ⟨h1, cs, t, f, hh, fun e' => by subst e'; rw [he] at ht; cases ht⟩
theorem Off.no : Off base e w No := fun _ h => h.elim
theorem Off.own {b0 e' size n : Nat} {v : Value} {xs : List Value} (h : w.ownsRow b0 e' size v n xs) (hb : base ≤ b0) (hne : e' ≠ e) : Off base e w (fun b => v.ownBlock = some b) := fun b hv => by
  rcases h.2 with ⟨rfl, _⟩ | ⟨g, cap, cur, rfl, h3, h4, _⟩
  · simp [Value.ownBlock] at hv
  · simp [Value.ownBlock] at hv
    subst hv
    exact ⟨Nat.le_trans hb h3, cur, e', _, h4, hne⟩
end

/-! ### 4. A slice that reads as a list of cells -/
theorem block_of_add (a : Addr) (n : Nat) : (a.add n).block = a.block := by unfold Addr.add; split <;> rfl
theorem add_of_add (a : Addr) (i j : Nat) : (a.add i).add j = a.add (i + j) := by
  unfold Addr.add
  by_cases hi : i = 0 <;> by_cases hj : j = 0 <;> simp [hi, hj, Nat.add_assoc]

def Reads (base : Nat) (w : World) (e size : Nat) (A : Option Addr) (n : Nat) (xs : List Value) : Prop :=
  xs.length = n * size ∧ (0 < n → ∃ ad, A = some ad ∧ Imm base e w ad.block ∧ ∀ j u, xs[j]? = some u → w.cell? (ad.add j) = some u)

section
variable {S : Nat → Prop} {base : Nat} {w w' : World} {e size n : Nat} {A : Option Addr} {xs : List Value}
theorem Reads.none_ : Reads base w e size A 0 [] := ⟨by simp, fun h => absurd h (by omega)⟩
theorem Reads.at_ {k : Nat} (h : Reads base w e 1 A n xs) (hk : k < n) : ∃ ad u, A = some ad ∧ xs[k]? = some u ∧ w.cell? (ad.add k) = some u := by
  obtain ⟨ad, e, hb, hc⟩ := h.2 (by omega)
  have hl : k < xs.length := by have := h.1; omega
  exact ⟨ad, xs[k], e, List.getElem?_eq_getElem hl, hc k _ (List.getElem?_eq_getElem hl)⟩
theorem Reads.off (h : Reads base w e size A n xs) (hk : Keep S w w') (hs : Off base e w S) : Reads base w' e size A n xs :=
  ⟨h.1, fun hn => by
    obtain ⟨ad, e, hb, hc⟩ := h.2 hn
    have hne : ¬ S ad.block := hb.off hs
    exact ⟨ad, e, hb.same (hk.block _ hb.lt hne) hk.size, fun j u hu => (hk.cell (p := ad.add j) (by rw [block_of_add]; exact hb.lt) (by rw [block_of_add]; exact hne)).trans (hc j u hu)⟩⟩
theorem Reads.keep (h : Reads base w e size A n xs) (hk : Keep S w w') (hs : ∀ b, S b → Mut base w b) : Reads base w' e size A n xs := by
  by_cases he : mutTy e = false
  · exact h.off hk (Off.of_mut he hs)
  · rcases Nat.eq_zero_or_pos n with h0 | h0
    · exact ⟨h.1, fun hn => absurd hn (by omega)⟩
    · obtain ⟨_, _, hb, _⟩ := h.2 h0
      exact absurd hb.1 he
theorem Reads.new_ (h : Reads base w e size A n xs) (hk : Keep No w w') : Reads base w' e size A n xs := h.keep hk (fun _ x => x.elim)
theorem Reads.drew (h : Reads base w e size A n xs) : Reads base w.drew e size A n xs := h
theorem Reads.drewN (h : Reads base w e size A n xs) (k : Nat) : Reads base (w.drewN k) e size A n xs := h
theorem Reads.alloc (h : Reads base w e size A n xs) (o : Obj) : Reads base (w.alloc o) e size A n xs := h.new_ ((Keep.refl _ _).alloc o)
/-- A store into a block that is written behind pointers, or one that is not below some number while the slice's is. -/
theorem Reads.setMut (h : Reads base w e size A n xs) {p : Addr} (hp : Mut base w p.block) (u : Value) : Reads base (w.setCell p u) e size A n xs :=
  h.keep (S := fun b => b = p.block) ((Keep.refl (fun b => b = p.block) w).setCell (p := p) (.inl rfl) u) (fun _ e => e ▸ hp)
theorem Reads.cut (h : Reads base w e size A n xs) {k cap : Nat} (hk : k ≤ n) (hc : n ≤ cap) :
    Reads base w e size (if cap = k then A else A.map (·.add (k * size))) (n - k) (xs.drop (k * size)) := by
  refine ⟨by rw [List.length_drop, h.1, Nat.sub_mul], fun hn => ?_⟩
  obtain ⟨ad, rfl, hb, hcell⟩ := h.2 (by omega)
  rw [if_neg (by omega)]
  refine ⟨ad.add (k * size), rfl, by rw [block_of_add]; exact hb, fun j u hu => ?_⟩
  rw [add_of_add]
  exact hcell _ u (by rw [← hu, List.getElem?_drop])
theorem Reads.take (h : Reads base w e size A n xs) {k : Nat} (hk : k ≤ n) : Reads base w e size A k (xs.take (k * size)) := by
  refine ⟨by rw [List.length_take, h.1]; exact Nat.min_eq_left (Nat.mul_le_mul_right _ hk), fun hn => ?_⟩
  obtain ⟨ad, e, hb, hcell⟩ := h.2 (by omega)
  exact ⟨ad, e, hb, fun j u hu => hcell j u (by
    rw [List.getElem?_take] at hu
    split at hu
    · exact hu
    · cases hu)⟩
theorem Reads.of_own {b0 c : Nat} (h : w.ownsRow b0 e size (.slice A n c) n xs) (he : mutTy e = false) : Reads base w e size A n xs := by
  refine ⟨h.1, fun hn => ?_⟩
  obtain ⟨hl, ⟨hv, hx⟩ | ⟨g, cap, cur, hv, hlt, hh, _⟩⟩ := id h
  · injection hv with _ h0; omega
  · have hA : A = some ⟨g, 0, none⟩ := by injection hv
    subst hA
    refine ⟨_, rfl, Blk.imm (t := e) (cs := cur) hh he, h.cells (g := g) rfl⟩
end

theorem own_keep {S : Nat → Prop} {w w1 : World} {base e size n : Nat} {v : Value} {xs : List Value} (h : w.ownsRow base e size v n xs) (hk : Keep S w w1) (hs : ∀ k, v.ownBlock = some k → ¬ S k) : w1.ownsRow base e size v n xs := by
  refine ⟨h.1, ?_⟩
  rcases h.2 with h2 | ⟨g, cap, cur, rfl, h3, h4, h5⟩
  · exact .inl h2
  · refine .inr ⟨g, cap, cur, rfl, h3, ?_, h5⟩
    rw [hk.block g (Blk.lt h4) (hs g rfl)]
    exact h4

/-! ### 5. Bytes -/
def byteV (b : UInt8) : Value := .int .u8 (b.toNat : Int)
def byteVs (bs : List UInt8) : List Value := bs.map byteV
theorem byteVs_length (bs : List UInt8) : (byteVs bs).length = bs.length := by simp [byteVs]
theorem byteVs_append (a b : List UInt8) : byteVs (a ++ b) = byteVs a ++ byteVs b := by simp [byteVs]
theorem byteVs_one (bs : List UInt8) : ∀ u ∈ byteVs bs, u.oneCell' = true := by
  intro u hu
  simp only [byteVs, List.mem_map] at hu
  obtain ⟨b, _, rfl⟩ := hu
  rfl
theorem byteVs_get (bs : List UInt8) (i : Nat) (h : i < bs.length) : (byteVs bs)[i]? = some (.int .u8 (bs[i].toNat : Int)) := by simp [byteVs, byteV, h]

/-- The slice reads as these bytes. -/
def Bytes (base : Nat) (w : World) (A : Option Addr) (n : Nat) (bs : List UInt8) : Prop := Reads base w 5 1 A n (byteVs bs)
section
variable {S : Nat → Prop} {base : Nat} {w w' : World} {n : Nat} {A : Option Addr} {bs : List UInt8}
theorem Bytes.len (h : Bytes base w A n bs) : bs.length = n := by have := h.1; rw [byteVs_length] at this; omega
theorem Bytes.at_ (h : Bytes base w A n bs) {k : Nat} (hk : k < n) : ∃ ad, A = some ad ∧ w.cell? (ad.add k) = some (.int .u8 ((bs.getD k 0).toNat : Int)) := by
  obtain ⟨ad, u, e, hx, hc⟩ := Reads.at_ h hk
  have hl : k < bs.length := by have := h.len; omega
  rw [byteVs_get bs k hl] at hx
  injection hx with hx
  exact ⟨ad, e, by rw [hc, ← hx]; simp [List.getD, hl]⟩
theorem Bytes.off (h : Bytes base w A n bs) (hk : Keep S w w') (hs : Off base 5 w S) : Bytes base w' A n bs := Reads.off h hk hs
theorem Bytes.keep (h : Bytes base w A n bs) (hk : Keep S w w') (hs : ∀ b, S b → Mut base w b) : Bytes base w' A n bs := Reads.keep h hk hs
theorem Bytes.new_ (h : Bytes base w A n bs) (hk : Keep No w w') : Bytes base w' A n bs := Reads.new_ h hk
theorem Bytes.drewN (h : Bytes base w A n bs) (k : Nat) : Bytes base (w.drewN k) A n bs := h
theorem Bytes.drew (h : Bytes base w A n bs) : Bytes base w.drew A n bs := h
theorem Bytes.alloc (h : Bytes base w A n bs) (o : Obj) : Bytes base (w.alloc o) A n bs := Reads.alloc h o
theorem Bytes.setMut (h : Bytes base w A n bs) {p : Addr} (hp : Mut base w p.block) (u : Value) : Bytes base (w.setCell p u) A n bs := Reads.setMut h hp u
theorem Bytes.none_ : Bytes base w A 0 [] := Reads.none_
theorem Bytes.of_own {b0 c : Nat} (h : w.ownsRow b0 5 1 (.slice A n c) n (byteVs bs)) : Bytes base w A n bs := Reads.of_own h rfl
end

/-- What the entry internal/bytealg.Compare reads. -/
theorem run_bytesOf {P : Program} {base : Nat} {w : World} {A : Option Addr} {n c : Nat} {bs : List UInt8} (h : Bytes base w A n bs) :
    (Extern.Bytes.bytesOf (.slice A n c)).run P w = .ok ⟨bs.toArray⟩ w := by
  have hl := h.len
  have key : ∀ (l : List UInt8) (a : Addr) (acc : ByteArray), (∀ j u, (byteVs l)[j]? = some u → w.cell? (a.add j) = some u) →
      (Extern.Bytes.loadBytes a l.length acc).run P w = .ok ⟨acc.data ++ l.toArray⟩ w := by
    intro l a acc hc
    have hx := Lib.run_loadBytesX (P := P) w (l.map fun b => (b.toNat : Int)) a acc (fun j x hj => by
      refine hc j (.int .u8 x) ?_
      simp only [List.getElem?_map, Option.map_eq_some_iff] at hj ⊢
      simp only [byteVs, List.getElem?_map, Option.map_eq_some_iff]
      obtain ⟨b, hb, rfl⟩ := hj
      exact ⟨b, hb, rfl⟩)
    rw [List.length_map] at hx
    rw [hx]
    congr 2
    have hm : (Lib.bytesOf (l.map fun b => (b.toNat : Int))) = l := by
      unfold Lib.bytesOf
      rw [List.map_map]
      conv => rhs; rw [← List.map_id l]
      exact List.map_congr_left fun b _ => by simp
    rw [hm]
  rcases A with _ | ad
  · have h0 : n = 0 := by
      rcases Nat.eq_zero_or_pos n with h0 | h0
      · exact h0
      · obtain ⟨ad, e, _⟩ := h.2 h0
        cases e
    subst h0
    have : bs = [] := List.eq_nil_of_length_eq_zero hl
    subst this
    simp [Extern.Bytes.bytesOf]
    rfl
  · have hc : ∀ j u, (byteVs bs)[j]? = some u → w.cell? (ad.add j) = some u := by
      intro j u hu
      rcases Nat.eq_zero_or_pos n with h0 | h0
      · have : bs = [] := List.eq_nil_of_length_eq_zero (by omega)
        subst this
        simp [byteVs] at hu
      · obtain ⟨ad', e, _, hc⟩ := h.2 h0
        injection e with e
        subst e
        exact hc j u hu
    have := key bs ad .empty hc
    rw [hl] at this
    simp only [Extern.Bytes.bytesOf]
    rw [this]
    congr 2
    simp [ByteArray.empty, ByteArray.emptyWithCapacity]
    rfl

theorem run_compare {P : Program} {b1 b2 : Nat} {w : World} {A B : Option Addr} {n c m d : Nat} {xs ys : List UInt8} (h : Bytes b1 w A n xs) (k : Bytes b2 w B m ys) :
    (Extern.BytealgCompare.compare #[.slice A n c, .slice B m d]).run P w = .ok (.int .i64 (Lib.compareBytes xs ys)) w := by
  change Sem.run P (do pure (goInt (Extern.BytealgCompare.cmp (← Extern.Bytes.bytesOf (.slice A n c)) (← Extern.Bytes.bytesOf (.slice B m d))))) w = _
  simp only [Sem.run_bind, Sem.run_pure, run_bytesOf h, run_bytesOf k, Result.andThen]
  rw [Lib.cmp_eq]
  rfl

/-! ### 6. append onto a row of the call's own, the source nil, empty or not -/
section
variable {P : Program} (w : World)

theorem run_append_of_nil (base : Nat) (t ty e : TypeId) (i : TypeInfo) (size : Nat) (ht : P.underlying t = some (.slice e)) (hi : P.info? e = some i)
    (v : Value) (n : Nat) (xs : List Value) (hown : w.ownsRow base e size v n xs) (c : Nat) : (Builtin.append_ #[t, t] ty #[v, .slice none 0 c]).run P w = .ok v w := by
  rcases hown.2 with ⟨rfl, rfl⟩ | ⟨g, cap, cur, rfl, _, _, hnc, _⟩
  · simp [Builtin.append_, run_underlying ht, sizeOf, typeInfo, hi, Builtin.lenOf, Builtin.firstCells]
  · simp [Builtin.append_, run_underlying ht, sizeOf, typeInfo, hi, Builtin.lenOf, Builtin.firstCells, hnc, storeCells]

theorem run_append_any (base : Nat) (t ty e : TypeId) (i : TypeInfo) (z : Value) (size bytes : Nat) (ht : P.underlying t = some (.slice e)) (hi : P.info? e = some i) (hz : i.zero = some z)
    (hsize : i.size = size) (hby : i.bytes = bytes) (hzs : z.cells.size = size) (hsz : 0 < size)
    (v : Value) (n : Nat) (xs : List Value) (hown : w.ownsRow base e size v n xs)
    (B : Nat) (A : Option Addr) (m c : Nat) (news : List Value) (hr : Reads B w e size A m news) (h1 : ∀ u ∈ news, u.oneCell' = true)
    (h63 : n + m ≤ maxLen) (hbytes : (n + m) * bytes ≤ 140737488355328) (hbase : base ≤ w.heap.size) :
    ∃ v' w', (Builtin.append_ #[t, t] ty #[v, .slice A m c]).run P w = .ok v' w' ∧ w'.ownsRow base e size v' (n + m) (xs ++ news) ∧ w.grownBy w' v.ownBlock ∧
      (v'.ownBlock = v.ownBlock ∨ v'.ownBlock = some w.heap.size) := by
  rcases A with _ | ad
  · have hm : m = 0 := by
      rcases Nat.eq_zero_or_pos m with h0 | h0
      · exact h0
      · obtain ⟨ad, h, _⟩ := hr.2 h0
        cases h
    subst hm
    have hn : news = [] := List.eq_nil_of_length_eq_zero (by simpa using hr.1)
    subst hn
    exact ⟨v, w, run_append_of_nil w base t ty e i size ht hi v n xs hown c, by simpa using hown, World.grownBy.refl w _, .inl rfl⟩
  · have hcells : ∀ j u, news[j]? = some u → w.cell? (ad.add j) = some u := by
      intro j u hu
      rcases Nat.eq_zero_or_pos m with h0 | h0
      · subst h0
        have hn : news = [] := List.eq_nil_of_length_eq_zero (by simpa using hr.1)
        subst hn
        simp at hu
      · obtain ⟨ad', h, _, hc⟩ := hr.2 h0
        injection h with h
        subst h
        exact hc j u hu
    obtain ⟨v', w', hrun, h2, h3, _, h5⟩ := run_append_own_at (P := P) w base t ty e i z size bytes ht hi hz hsize hby hzs hsz v n xs hown ad m c news hr.1 hcells h1 h63 hbytes hbase
    exact ⟨v', w', hrun, h2, h3, h5⟩

theorem wp_append_any {o : Oper} {a : Act} {K : Act → World → Prop} {Q : Exit → Act → World → Prop} (s x : Operand) (t : TypeId)
    (ho : o.op = .call { callee := .builtin .append, args := #[s, x], argTypes := #[t, t] })
    (base : Nat) (e : TypeId) (i : TypeInfo) (z : Value) (size bytes : Nat) (ht : P.underlying t = some (.slice e)) (hi : P.info? e = some i) (hz : i.zero = some z)
    (hsize : i.size = size) (hby : i.bytes = bytes) (hzs : z.cells.size = size) (hsz : 0 < size)
    (v : Value) (n : Nat) (xs : List Value) (hs : a.eval s = v) (hown : w.ownsRow base e size v n xs)
    (B : Nat) (A : Option Addr) (m c : Nat) (news : List Value) (hx : a.eval x = .slice A m c) (hr : Reads B w e size A m news) (h1 : ∀ u ∈ news, u.oneCell' = true)
    (h63 : n + m ≤ maxLen) (hbytes : (n + m) * bytes ≤ 140737488355328) (hbase : base ≤ w.heap.size)
    (h : ∀ v' w', w'.ownsRow base e size v' (n + m) (xs ++ news) → w.grownBy w' v.ownBlock → (v'.ownBlock = v.ownBlock ∨ v'.ownBlock = some w.heap.size) → K (a.put o.dst v') w') : o.wp P a w K Q := by
  obtain ⟨v', w', hrun, h2, h3, h4⟩ := run_append_any (P := P) w base t o.type e i z size bytes ht hi hz hsize hby hzs hsz v n xs hown B A m c news hr h1 h63 hbytes hbase
  unfold Oper.wp execOp
  simp only [ho, resolve, invoke, builtin, Sem.run_bind, Sem.run_pure, Result.andThen_ok, List.map_toArray, List.map_cons, List.map_nil, hs, hx, hrun]
  exact h v' w' h2 h3 h4

theorem wpList_append_any {ops : Array Oper} {rest : List Oper} {o : Oper} {a : Act} {Q : Exit → Act → World → Prop} (hgd : o.guard = none) (s x : Operand) (t : TypeId)
    (ho : o.op = .call { callee := .builtin .append, args := #[s, x], argTypes := #[t, t] })
    (base : Nat) (e : TypeId) (i : TypeInfo) (z : Value) (size bytes : Nat) (ht : P.underlying t = some (.slice e)) (hi : P.info? e = some i) (hz : i.zero = some z)
    (hsize : i.size = size) (hby : i.bytes = bytes) (hzs : z.cells.size = size) (hsz : 0 < size)
    (v : Value) (n : Nat) (xs : List Value) (hs : a.eval s = v) (hown : w.ownsRow base e size v n xs)
    (B : Nat) (A : Option Addr) (m c : Nat) (news : List Value) (hx : a.eval x = .slice A m c) (hr : Reads B w e size A m news) (h1 : ∀ u ∈ news, u.oneCell' = true)
    (h63 : n + m ≤ maxLen) (hbytes : (n + m) * bytes ≤ 140737488355328) (hbase : base ≤ w.heap.size)
    (h : ∀ v' w', w'.ownsRow base e size v' (n + m) (xs ++ news) → w.grownBy w' v.ownBlock → (v'.ownBlock = v.ownBlock ∨ v'.ownBlock = some w.heap.size) → wpList P ops Q rest (a.put o.dst v') w') : wpList P ops Q (o :: rest) a w :=
  wpList_plain hgd fun _ hK => wp_append_any w s x t ho base e i z size bytes ht hi hz hsize hby hzs hsz v n xs hs hown B A m c news hx hr h1 h63 hbytes hbase fun v' w' h2 h3 h4 => hK _ _ (h v' w' h2 h3 h4)
end

end Go.Proofs.YtgabidgpngiecaaGreatKit

namespace Go.Proofs.YtgabidgpngiecaaGreatKit
open Go.RowKit

/-- The cells xs are those of the records l, one behind another. -/
def Flat {α : Type} (R : α → List Value → Prop) (size : Nat) : List α → List Value → Prop
  | [], xs => xs = []
  | x :: l, xs => ∃ cs ys, xs = cs ++ ys ∧ cs.length = size ∧ R x cs ∧ Flat R size l ys

section
variable {α : Type} {R R' : α → List Value → Prop} {size : Nat} {l l' : List α} {xs ys : List Value}
theorem Flat.nil : Flat R size [] [] := rfl
theorem Flat.len (h : Flat R size l xs) : xs.length = l.length * size := by
  induction l generalizing xs with
  | nil => rw [show xs = [] from h]; simp
  | cons x l ih =>
    obtain ⟨cs, ys, rfl, hc, _, ht⟩ := h
    rw [List.length_append, hc, ih ht, List.length_cons, Nat.succ_mul]; omega
theorem Flat.mono (h : Flat R size l xs) (hr : ∀ x cs, R x cs → R' x cs) : Flat R' size l xs := by
  induction l generalizing xs with
  | nil => exact h
  | cons x l ih =>
    obtain ⟨cs, ys, e, hc, hx, ht⟩ := h
    exact ⟨cs, ys, e, hc, hr _ _ hx, ih ht⟩
theorem Flat.append (h : Flat R size l xs) (k : Flat R size l' ys) : Flat R size (l ++ l') (xs ++ ys) := by
  induction l generalizing xs with
  | nil => rw [show xs = [] from h]; exact k
  | cons x l ih =>
    obtain ⟨cs, zs, rfl, hc, hx, ht⟩ := h
    exact ⟨cs, zs ++ ys, by rw [List.append_assoc], hc, hx, ih ht⟩
theorem Flat.one {x : α} {cs : List Value} (h : R x cs) (hc : cs.length = size) : Flat R size [x] cs := ⟨cs, [], by simp, hc, h, rfl⟩
theorem Flat.get (h : Flat R size l xs) {k : Nat} {x : α} (hk : l[k]? = some x) : ∃ cs, R x cs ∧ cs.length = size ∧ ∀ j u, cs[j]? = some u → xs[k * size + j]? = some u := by
  induction l generalizing xs k with
  | nil => simp at hk
  | cons y l ih =>
    obtain ⟨cs, zs, rfl, hc, hx, ht⟩ := h
    cases k with
    | zero =>
      simp at hk; subst hk
      refine ⟨cs, hx, hc, fun j u hu => ?_⟩
      have : j < cs.length := (List.getElem?_eq_some_iff.1 hu).1
      rw [Nat.zero_mul, Nat.zero_add, List.getElem?_append_left this, hu]
    | succ k =>
      obtain ⟨cs', hx', hc', hg⟩ := ih ht (k := k) (by simpa using hk)
      refine ⟨cs', hx', hc', fun j u hu => ?_⟩
      rw [Nat.succ_mul, List.getElem?_append_right (by omega), hc, show k * size + size + j - size = k * size + j from by omega]
      exact hg j u hu
theorem Flat.drop (h : Flat R size l xs) (k : Nat) : Flat R size (l.drop k) (xs.drop (k * size)) := by
  induction k generalizing l xs with
  | zero => simpa using h
  | succ k ih =>
    cases l with
    | nil => rw [show xs = [] from h]; simp [Flat]
    | cons x l =>
      obtain ⟨cs, ys, rfl, hc, hx, ht⟩ := h
      have e : (cs ++ ys).drop ((k + 1) * size) = ys.drop (k * size) := by
        rw [List.drop_append, List.drop_of_length_le (by rw [Nat.succ_mul]; omega), List.nil_append]
        congr 1
        rw [Nat.succ_mul]; omega
      rw [e]
      exact ih ht
theorem Flat.take (h : Flat R size l xs) (k : Nat) : Flat R size (l.take k) (xs.take (k * size)) := by
  induction k generalizing l xs with
  | zero => simp [Flat]
  | succ k ih =>
    cases l with
    | nil => rw [show xs = [] from h]; simp [Flat]
    | cons x l =>
      obtain ⟨cs, ys, rfl, hc, hx, ht⟩ := h
      refine ⟨cs, ys.take (k * size), ?_, hc, hx, ih ht⟩
      rw [Nat.succ_mul, Nat.add_comm, ← hc, List.take_append, List.take_of_length_le (by omega)]
      congr 2
      omega
end

/-- The slice reads as these records. -/
def Recs {α : Type} (base e : Nat) (R : World → α → List Value → Prop) (size : Nat) (w : World) (A : Option Addr) (n : Nat) (l : List α) : Prop :=
  ∃ xs, Reads base w e size A n xs ∧ Flat (R w) size l xs

theorem Recs.len {α : Type} {base e : Nat} {R : World → α → List Value → Prop} {size : Nat} {w : World} {A : Option Addr} {n : Nat} {l : List α} (hs : 0 < size) (h : Recs base e R size w A n l) : l.length = n := by
  obtain ⟨xs, hr, hf⟩ := h
  have e := hr.1
  rw [hf.len] at e
  exact Nat.eq_of_mul_eq_mul_right hs e
theorem Recs.at_ {α : Type} {base e : Nat} {R : World → α → List Value → Prop} {size : Nat} {w : World} {A : Option Addr} {n : Nat} {l : List α} (hs : 0 < size) (h : Recs base e R size w A n l) {k : Nat} (hk : k < l.length) :
    ∃ ad cs, A = some ad ∧ Imm base e w ad.block ∧ R w l[k] cs ∧ cs.length = size ∧ ∀ j u, cs[j]? = some u → w.cell? (ad.add (k * size + j)) = some u := by
  have hn := h.len hs
  obtain ⟨xs, hr, hf⟩ := h
  obtain ⟨ad, e, hb, hc⟩ := hr.2 (by omega)
  obtain ⟨cs, hx, hl, hg⟩ := hf.get (List.getElem?_eq_getElem hk)
  exact ⟨ad, cs, e, hb, hx, hl, fun j u hu => hc _ u (hg j u hu)⟩
theorem Recs.keep {α : Type} {base e : Nat} {R : World → α → List Value → Prop} {size : Nat} {w w' : World} {A : Option Addr} {n : Nat} {l : List α} {S : Nat → Prop} (h : Recs base e R size w A n l) (hk : Keep S w w') (hs : ∀ b, S b → Mut base w b) (hR : ∀ x cs, R w x cs → R w' x cs) : Recs base e R size w' A n l := by
  obtain ⟨xs, hr, hf⟩ := h
  exact ⟨xs, hr.keep hk hs, hf.mono hR⟩

/-- A field of a record: the walk's spelling of its address. -/
theorem add_field (a : Addr) (i j : Nat) (hj : 0 < j) : (⟨(a.add i).block, (a.add i).off + j, none⟩ : Addr) = a.add (i + j) := by
  unfold Addr.add
  by_cases hi : i = 0
  · simp [hi, show j ≠ 0 by omega]
  · simp [hi]; omega

end Go.Proofs.YtgabidgpngiecaaGreatKit
