/- Maps as lists of their entries: look-up, store, delete, length, ranges. Conditions: the keys are of a type that the library's laws read. -/
import Derived.Test.YtgabidgpngiecaaGreatK1
import Derived.Maps.RangeWalk
import Derived.Maps.OwnSet
import Derived.WideKeyEntry
namespace Go.Proofs.YtgabidgpngiecaaGreatKit
open Go.RowKit Go.ChangeMaps Go.MapKept
open Go.Maps (Keyed)

def ents (es : List MapEntry) : List (Value × Value) := es.map fun e => (e.key, e.val)
/-- Block b is a map that has these entries. -/
def MapAt (P : Program) (k : TypeId) (w : World) (b : Nat) (l : List (Value × Value)) : Prop :=
  ∃ es clock, w.heap[b]? = some (.map es clock) ∧ es.size ≤ maxLen ∧ Stamped es clock ∧ (∀ x ∈ es.toList, ∃ kl, keyOf P k x.key = some kl) ∧ (ents es.toList).Perm l

theorem perm_cons_ne {α : Type} {a : α × α} {l l' : List (α × α)} (hp : (a :: l).Perm (a :: l')) : l.Perm l' := List.Perm.cons_inv hp
section
variable {P : Program} {k : TypeId} {w w' : World} {b : Nat} {l l' : List (Value × Value)} {S : Nat → Prop}
theorem MapAt.perm (h : MapAt P k w b l) (hp : l.Perm l') : MapAt P k w b l' := by
  obtain ⟨es, clock, h1, h2, h3, h4, h5⟩ := h
  exact ⟨es, clock, h1, h2, h3, h4, h5.trans hp⟩
theorem MapAt.lt (h : MapAt P k w b l) : b < w.heap.size := by
  obtain ⟨es, clock, h1, _⟩ := h
  exact (Array.getElem?_eq_some_iff.1 h1).1
theorem MapAt.keep (h : MapAt P k w b l) (hk : Keep S w w') (hn : ¬ S b) : MapAt P k w' b l := by
  have hlt := h.lt
  obtain ⟨es, clock, h1, h2⟩ := h
  exact ⟨es, clock, (hk.block b hlt hn).trans h1, h2⟩
theorem MapAt.made (w : World) : MapAt P k (w.alloc (.map #[] 0)) w.heap.size [] :=
  ⟨#[], 0, (MapKept.heap_alloc w _).1, by simp, stamped_empty 0, by simp, List.Perm.refl _⟩
theorem MapAt.nodup (h : MapAt P k w b l) : l.Pairwise (fun p q => p.1 ≠ q.1) := by
  obtain ⟨es, clock, _, _, h3, _, h5⟩ := h
  refine (h5.pairwise_iff (fun {x y} (h : x.1 ≠ y.1) => h.symm)).1 ?_
  rw [ents, List.pairwise_map]
  exact ((stamped_iff es clock).1 h3).2.2
theorem MapAt.keys (h : MapAt P k w b l) : ∀ p ∈ l, ∃ kl, keyOf P k p.1 = some kl := by
  obtain ⟨es, clock, _, _, _, h4, h5⟩ := h
  intro p hp
  obtain ⟨x, hx, rfl⟩ := List.mem_map.1 (h5.mem_iff.2 hp)
  exact h4 x hx
theorem MapAt.size (h : MapAt P k w b l) : l.length ≤ maxLen := by
  obtain ⟨es, clock, _, h2, _, _, h5⟩ := h
  have := h5.length_eq
  simp [ents] at this
  omega
/-- An entry's place. -/
theorem perm_eraseIdx {α : Type} : ∀ {l : List α} {j : Nat} {x : α}, l[j]? = some x → l.Perm (x :: l.eraseIdx j)
  | [], _, _, h => by simp at h
  | a :: l, 0, x, h => by simp at h; subst h; exact List.Perm.refl _
  | a :: l, j + 1, x, h => by
    simp at h
    exact ((perm_eraseIdx h).cons a).trans (List.Perm.swap x a _)
theorem perm_set {α : Type} : ∀ {l : List α} {j : Nat} {x y : α}, l[j]? = some x → (l.set j y).Perm (y :: l.eraseIdx j)
  | [], _, _, _, h => by simp at h
  | a :: l, 0, x, y, h => by exact List.Perm.refl _
  | a :: l, j + 1, x, y, h => by
    simp at h
    exact ((perm_set h).cons a).trans (List.Perm.swap y a _)
theorem ents_get {es : List MapEntry} {j : Nat} {e : MapEntry} (h : es[j]? = some e) : (ents es)[j]? = some (e.key, e.val) := by simp [ents, h]

variable {t e : TypeId} {key : Value} {kl : Lit}
/-- m[key], where key is there. -/
theorem MapAt.look {v : Value} (c : Bool) (h : MapAt P k w b ((key, v) :: l)) (K : Keyed P k) (ht : P.underlying t = some (.map k e)) : (Instr.lookup t (.map (some b)) key c).run P w = .ok (if c then .tuple #[v, .bool true] else v) w := by
  obtain ⟨kl, hkey⟩ := h.keys _ List.mem_cons_self
  have hnd := List.pairwise_cons.1 h.nodup
  obtain ⟨es, clock, h1, h2, h3, h4, h5⟩ := h
  have hmem : (key, v) ∈ ents es.toList := h5.mem_iff.2 List.mem_cons_self
  rcases K.find w hkey es.toList h4 with ⟨f1, f2⟩ | ⟨j, e0, f1, f2, f3⟩
  · obtain ⟨x, hx, e1⟩ := List.mem_map.1 hmem
    injection e1 with e1 _
    exact absurd e1 (f2 x hx)
  · have hv : e0.val = v := by
      have h6 : (e0.key, e0.val) ∈ (key, v) :: l := h5.mem_iff.1 (List.mem_map.2 ⟨e0, List.mem_of_getElem? f2, rfl⟩)
      rcases List.mem_cons.1 h6 with h6 | h6
      · injection h6
      · exact absurd f3.symm (hnd.1 _ h6)
    subst hv
    simp [Instr.lookup, run_underlying ht, MapKept.run_getObj_map h1, K.check w _ hkey, f1, Result.andThen]
/-- m[key], where key is not there. -/
theorem MapAt.look_no {z : Value} (c : Bool) (h : MapAt P k w b l) (hn : ∀ p ∈ l, p.1 ≠ key) (K : Keyed P k) (ht : P.underlying t = some (.map k e)) (hz : (zeroValue e).run P w = .ok z w) (hkey : keyOf P k key = some kl) :
    (Instr.lookup t (.map (some b)) key c).run P w = .ok (if c then .tuple #[z, .bool false] else z) w := by
  obtain ⟨es, clock, h1, h2, h3, h4, h5⟩ := h
  rcases K.find w hkey es.toList h4 with ⟨f1, f2⟩ | ⟨j, e0, f1, f2, f3⟩
  · simp [Instr.lookup, run_underlying ht, MapKept.run_getObj_map h1, K.check w _ hkey, f1, hz, Result.andThen]
  · exact absurd f3 (hn _ (h5.mem_iff.1 (List.mem_map.2 ⟨e0, List.mem_of_getElem? f2, rfl⟩)))
theorem keep_setBlock {es : Array MapEntry} {clock : Nat} (h1 : w.heap[b]? = some (.map es clock)) (o : Obj) : Keep (fun x => x = b) w (setBlock w b o) :=
  ⟨rfl, rfl, rfl, by simp [setBlock], fun i _ hne => heap_setBlock_other h1 o hne⟩
/-- m[key] = val, where key is there. -/
theorem MapAt.store {v val : Value} (h : MapAt P k w b ((key, v) :: l)) (K : Keyed P k) (ht : P.underlying t = some (.map k e)) :
    ∃ w', (Instr.mapUpdate t (.map (some b)) key val).run P w = .ok () w' ∧ MapAt P k w' b ((key, val) :: l) ∧ Keep (fun x => x = b) w w' ∧ w'.heap.size = w.heap.size := by
  obtain ⟨kl, hkey⟩ := h.keys _ List.mem_cons_self
  have hnd := List.pairwise_cons.1 h.nodup
  obtain ⟨es, clock, h1, h2, h3, h4, h5⟩ := h
  have hmem : (key, v) ∈ ents es.toList := h5.mem_iff.2 List.mem_cons_self
  rcases K.find w hkey es.toList h4 with ⟨f1, f2⟩ | ⟨j, e0, f1, f2, f3⟩
  · obtain ⟨x, hx, e1⟩ := List.mem_map.1 hmem
    injection e1 with e1 _
    exact absurd e1 (f2 x hx)
  · have hj : es[j]? = some e0 := by simpa using f2
    have hlist : (es.modify j (fun e' => { e' with key := key, val := val })).toList = es.toList.set j { e0 with key := key, val := val } := by rw [Array.toList_modify, modify_eq_set _ _ _ _ f2]
    have hv : (e0.key, e0.val) = (key, v) := by
      have h6 : (e0.key, e0.val) ∈ (key, v) :: l := h5.mem_iff.1 (List.mem_map.2 ⟨e0, List.mem_of_getElem? f2, rfl⟩)
      rcases List.mem_cons.1 h6 with h6 | h6
      · exact h6
      · exact absurd f3.symm (hnd.1 _ h6)
    refine ⟨setBlock w b (.map (es.modify j (fun e' => { e' with key := key, val := val })) clock), ?_, ⟨_, clock, heap_setBlock_same h1 _, by simpa using h2, stamped_modify h3 _ _ (fun _ _ => rfl) (fun e' _ he' => by rw [hj] at he'; cases he'; exact f3.symm), ?_, ?_⟩, keep_setBlock h1 _, by simp [setBlock]⟩
    · simp [Instr.mapUpdate, run_underlying ht, MapKept.run_getObj_map h1, K.check w false hkey, f1, hj, f3, K.stays w hkey, MapKept.run_setObj_map _ h1, Result.andThen, setBlock]
    · intro x hx
      rw [hlist] at hx
      rcases List.mem_or_eq_of_mem_set hx with hx | rfl
      · exact h4 x hx
      · exact ⟨kl, hkey⟩
    · rw [hlist, ents, List.map_set]
      refine (perm_set (ents_get f2)).trans (List.Perm.cons _ ?_)
      have := (perm_eraseIdx (ents_get f2)).symm.trans h5
      rw [hv] at this
      exact this.cons_inv
/-- m[key] = val, where key is not there. -/
theorem MapAt.store_new {val : Value} (h : MapAt P k w b l) (hn : ∀ p ∈ l, p.1 ≠ key) (hroom : l.length < maxLen) (K : Keyed P k) (ht : P.underlying t = some (.map k e)) (hkey : keyOf P k key = some kl) :
    ∃ w', (Instr.mapUpdate t (.map (some b)) key val).run P w = .ok () w' ∧ MapAt P k w' b ((key, val) :: l) ∧ Keep (fun x => x = b) w w' ∧ w'.heap.size = w.heap.size := by
  obtain ⟨es, clock, h1, h2, h3, h4, h5⟩ := h
  have hsz : es.size = l.length := by have := h5.length_eq; simp [ents] at this; omega
  rcases K.find w hkey es.toList h4 with ⟨f1, f2⟩ | ⟨j, e0, f1, f2, f3⟩
  · refine ⟨setBlock w b (.map (es.push ⟨key, val, clock⟩) (clock + 1)), ?_, ⟨_, _, heap_setBlock_same h1 _, by simp; omega, stamped_push h3 f2, ?_, ?_⟩, keep_setBlock h1 _, by simp [setBlock]⟩
    · simp [Instr.mapUpdate, run_underlying ht, MapKept.run_getObj_map h1, K.check w false hkey, f1, MapKept.run_setObj_map _ h1, Result.andThen, setBlock]
    · intro x hx
      simp only [Array.toList_push, List.mem_append, List.mem_singleton] at hx
      rcases hx with hx | rfl
      · exact h4 x hx
      · exact ⟨kl, hkey⟩
    · simp only [Array.toList_push, ents, List.map_append, List.map_cons, List.map_nil]
      exact List.perm_append_singleton _ _ |>.trans (List.Perm.cons _ h5)
  · exact absurd f3 (hn _ (h5.mem_iff.1 (List.mem_map.2 ⟨e0, List.mem_of_getElem? f2, rfl⟩)))
/-- The two steps of m[key]++ (m[key] op= ..), where key is there. -/
theorem MapAt.entry {v : Value} (h : MapAt P k w b ((key, v) :: l)) (K : Keyed P k) (ht : P.underlying t = some (.map k e)) :
    ∃ st w1, (Instr.mapEntry t (.map (some b)) key).run P w = .ok (.tuple #[v, .int .i64 (st : Nat)]) w1 ∧ MapAt P k w1 b ((key, v) :: l) ∧ Keep (fun x => x = b) w w1 ∧ w1.heap.size = w.heap.size ∧
      ∀ w2 val, w2.heap[b]? = w1.heap[b]? → ∃ w3, (Instr.entryStore t (.map (some b)) (.int .i64 (st : Nat)) val).run P w2 = .ok () w3 ∧ MapAt P k w3 b ((key, val) :: l) ∧ Keep (fun x => x = b) w2 w3 ∧ w3.heap.size = w2.heap.size := by
  obtain ⟨kl, hkey⟩ := h.keys _ List.mem_cons_self
  have hnd := List.pairwise_cons.1 h.nodup
  obtain ⟨es, clock, h1, h2, h3, h4, h5⟩ := h
  have hmem : (key, v) ∈ ents es.toList := h5.mem_iff.2 List.mem_cons_self
  rcases K.find w hkey es.toList h4 with ⟨f1, f2⟩ | ⟨j, e0, f1, f2, f3⟩
  · obtain ⟨x, hx, e1⟩ := List.mem_map.1 hmem
    injection e1 with e1 _
    exact absurd e1 (f2 x hx)
  · have hj : es[j]? = some e0 := by simpa using f2
    have hv : (e0.key, e0.val) = (key, v) := by
      have h6 : (e0.key, e0.val) ∈ (key, v) :: l := h5.mem_iff.1 (List.mem_map.2 ⟨e0, List.mem_of_getElem? f2, rfl⟩)
      rcases List.mem_cons.1 h6 with h6 | h6
      · exact h6
      · exact absurd f3.symm (hnd.1 _ h6)
    have hsame : es.modify j (fun e => { e with key := key }) = es := by
      apply Array.ext'
      rw [Array.toList_modify, modify_eq_set _ _ _ _ f2]
      have : ({ e0 with key := key } : MapEntry) = e0 := by cases e0; cases f3; rfl
      rw [this]
      exact WideElems.set_self _ _ _ f2
    have hev : e0.val = v := by injection hv
    refine ⟨e0.born, setBlock w b (.map es clock), ?_, ⟨es, clock, heap_setBlock_same h1 _, h2, h3, h4, h5⟩, keep_setBlock h1 _, by simp [setBlock], fun w2 val hw2 => ?_⟩
    · simp [Instr.mapEntry, run_underlying ht, MapKept.run_getObj_map h1, K.check w false hkey, f1, hj, f3, K.stays w hkey, hsame, MapKept.run_setObj_map _ h1, Result.andThen, setBlock, goInt, hev]
    · rw [heap_setBlock_same h1 _] at hw2
      have hidx : es.findIdx? (fun e => ((e.born : Nat) : Int) == ((e0.born : Nat) : Int)) = some j := by
        rw [WideElems.findIdx_arr]
        exact WideElems.findIdx_born h3.2.1 f2
      have hlist : (es.modify j (fun e' => { e' with val := val })).toList = es.toList.set j { e0 with val := val } := by rw [Array.toList_modify, modify_eq_set _ _ _ _ f2]
      refine ⟨setBlock w2 b (.map (es.modify j (fun e' => { e' with val := val })) clock), ?_, ⟨_, clock, heap_setBlock_same hw2 _, by simpa using h2, stamped_modify h3 _ _ (fun _ _ => rfl) (fun _ _ _ => rfl), ?_, ?_⟩, keep_setBlock hw2 _, by simp [setBlock]⟩
      · simp [Instr.entryStore, MapKept.run_getObj_map hw2, asInt, asIntOf, hidx, MapKept.run_setObj_map _ hw2, Result.andThen, setBlock]
      · intro x hx
        rw [hlist] at hx
        rcases List.mem_or_eq_of_mem_set hx with hx | rfl
        · exact h4 x hx
        · exact ⟨kl, f3 ▸ hkey⟩
      · rw [hlist, ents, List.map_set]
        have hk2 : e0.key = key := f3
        refine (perm_set (ents_get f2)).trans ?_
        show ((e0.key, val) :: _).Perm _
        rw [hk2]
        refine List.Perm.cons _ ?_
        have := (perm_eraseIdx (ents_get f2)).symm.trans h5
        rw [hv] at this
        exact this.cons_inv
/-- The two steps of m[key]++, where key is not there. -/
theorem MapAt.entry_new {z : Value} (h : MapAt P k w b l) (hn : ∀ p ∈ l, p.1 ≠ key) (hroom : l.length < maxLen) (K : Keyed P k) (ht : P.underlying t = some (.map k e)) (hz : ∀ u : World, (zeroValue e).run P u = .ok z u) (hkey : keyOf P k key = some kl) :
    ∃ st w1, (Instr.mapEntry t (.map (some b)) key).run P w = .ok (.tuple #[z, .int .i64 (st : Nat)]) w1 ∧ MapAt P k w1 b ((key, z) :: l) ∧ Keep (fun x => x = b) w w1 ∧ w1.heap.size = w.heap.size ∧
      ∀ w2 val, w2.heap[b]? = w1.heap[b]? → ∃ w3, (Instr.entryStore t (.map (some b)) (.int .i64 (st : Nat)) val).run P w2 = .ok () w3 ∧ MapAt P k w3 b ((key, val) :: l) ∧ Keep (fun x => x = b) w2 w3 ∧ w3.heap.size = w2.heap.size := by
  obtain ⟨es, clock, h1, h2, h3, h4, h5⟩ := h
  have hsz : es.size = l.length := by have := h5.length_eq; simp [ents] at this; omega
  rcases K.find w hkey es.toList h4 with ⟨f1, f2⟩ | ⟨j, e0, f1, f2, f3⟩
  · have hm1 : ∀ val, MapAt P k (setBlock w b (.map (es.push ⟨key, val, clock⟩) (clock + 1))) b ((key, val) :: l) := fun val => ⟨_, _, heap_setBlock_same h1 _, by simp; omega, stamped_push h3 f2, fun x hx => by
      simp only [Array.toList_push, List.mem_append, List.mem_singleton] at hx
      rcases hx with hx | rfl
      · exact h4 x hx
      · exact ⟨kl, hkey⟩, by
      simp only [Array.toList_push, ents, List.map_append, List.map_cons, List.map_nil]
      exact List.perm_append_singleton _ _ |>.trans (List.Perm.cons _ h5)⟩
    refine ⟨clock, setBlock w b (.map (es.push ⟨key, z, clock⟩) (clock + 1)), ?_, hm1 z, keep_setBlock h1 _, by simp [setBlock], fun w2 val hw2 => ?_⟩
    · simp [Instr.mapEntry, run_underlying ht, MapKept.run_getObj_map h1, K.check w false hkey, f1, hz, MapKept.run_setObj_map _ h1, Result.andThen, setBlock, goInt]
    · rw [heap_setBlock_same h1 _] at hw2
      have hidx : (es.push ⟨key, z, clock⟩).findIdx? (fun e => ((e.born : Nat) : Int) == ((clock : Nat) : Int)) = some es.size := by
        rw [WideElems.findIdx_arr]
        exact WideElems.findIdx_born (l := (es.push ⟨key, z, clock⟩).toList) (j := es.size) (e0 := ⟨key, z, clock⟩) (stamped_push h3 f2).2.1 (by simp)
      have hmod : (es.push ⟨key, z, clock⟩).modify es.size (fun e => { e with val := val }) = es.push ⟨key, val, clock⟩ := by
        apply Array.ext'
        rw [Array.toList_modify, Array.toList_push, Array.toList_push, ← Array.length_toList, WideElems.modify_last]
      refine ⟨setBlock w2 b (.map (es.push ⟨key, val, clock⟩) (clock + 1)), ?_, ⟨_, _, heap_setBlock_same hw2 _, by simp; omega, stamped_push h3 f2, ?_, ?_⟩, keep_setBlock hw2 _, by simp [setBlock]⟩
      · simp [Instr.entryStore, MapKept.run_getObj_map hw2, asInt, asIntOf, hidx, hmod, MapKept.run_setObj_map _ hw2, Result.andThen, setBlock]
      · intro x hx
        simp only [Array.toList_push, List.mem_append, List.mem_singleton] at hx
        rcases hx with hx | rfl
        · exact h4 x hx
        · exact ⟨kl, hkey⟩
      · simp only [Array.toList_push, ents, List.map_append, List.map_cons, List.map_nil]
        exact List.perm_append_singleton _ _ |>.trans (List.Perm.cons _ h5)
  · exact absurd f3 (hn _ (h5.mem_iff.1 (List.mem_map.2 ⟨e0, List.mem_of_getElem? f2, rfl⟩)))
/-- delete(m, key), where key is there. -/
theorem MapAt.drop {v : Value} (ty : TypeId) (h : MapAt P k w b ((key, v) :: l)) (K : Keyed P k) (ht : P.underlying t = some (.map k e)) :
    ∃ w', (Builtin.delete_ #[t, k] ty #[.map (some b), key]).run P w = .ok (.tuple #[]) w' ∧ MapAt P k w' b l ∧ Keep (fun x => x = b) w w' ∧ w'.heap.size = w.heap.size := by
  obtain ⟨kl, hkey⟩ := h.keys _ List.mem_cons_self
  have hnd := List.pairwise_cons.1 h.nodup
  obtain ⟨es, clock, h1, h2, h3, h4, h5⟩ := h
  have hmem : (key, v) ∈ ents es.toList := h5.mem_iff.2 List.mem_cons_self
  rcases K.find w hkey es.toList h4 with ⟨f1, f2⟩ | ⟨j, e0, f1, f2, f3⟩
  · obtain ⟨x, hx, e1⟩ := List.mem_map.1 hmem
    injection e1 with e1 _
    exact absurd e1 (f2 x hx)
  · have hjl : j < es.toList.length := (List.getElem?_eq_some_iff.1 f2).1
    have hjs : j < es.size := by simpa using hjl
    have hsub : (es.eraseIdxIfInBounds j).toList = es.toList.eraseIdx j := by
      unfold Array.eraseIdxIfInBounds
      rw [dif_pos hjs]
      simp
    have hv : (e0.key, e0.val) = (key, v) := by
      have h6 : (e0.key, e0.val) ∈ (key, v) :: l := h5.mem_iff.1 (List.mem_map.2 ⟨e0, List.mem_of_getElem? f2, rfl⟩)
      rcases List.mem_cons.1 h6 with h6 | h6
      · exact h6
      · exact absurd f3.symm (hnd.1 _ h6)
    refine ⟨setBlock w b (.map (es.eraseIdxIfInBounds j) clock), ?_, ⟨_, clock, heap_setBlock_same h1 _, Nat.le_trans (MapFrom.size_erase es j) h2, stamped_erase h3 j, ?_, ?_⟩, keep_setBlock h1 _, by simp [setBlock]⟩
    · simp [Builtin.delete_, run_underlying ht, MapKept.run_getObj_map h1, K.check w _ hkey, f1, MapKept.run_setObj_map _ h1, Result.andThen, setBlock]
    · intro x hx
      rw [hsub] at hx
      exact h4 x ((List.eraseIdx_sublist _ _).subset hx)
    · rw [hsub, ents, map_eraseIdx]
      have := (perm_eraseIdx (ents_get f2)).symm.trans h5
      rw [hv] at this
      exact this.cons_inv
/-- len(m). -/
theorem MapAt.len (ty : TypeId) (h : MapAt P k w b l) (ht : P.underlying t = some (.map k e)) : (Builtin.len_ #[t] ty #[.map (some b)]).run P w = .ok (.int .i64 (l.length : Nat)) w := by
  obtain ⟨es, clock, h1, h2, h3, h4, h5⟩ := h
  have hsz : es.size = l.length := by have := h5.length_eq; simp [ents] at this; omega
  rw [← hsz]
  simp [Builtin.len_, run_underlying ht, MapKept.run_getObj_map h1, Result.andThen]
  rfl
end

/-! ### Ranges -/
/-- Block r is an iterator over the map in block b; these entries are still to come. -/
def RangeAt (P : Program) (k : TypeId) (w : World) (b r : Nat) (l rest : List (Value × Value)) : Prop :=
  ∃ es clock since seen c0, w.heap[b]? = some (.map es clock) ∧ es.size ≤ maxLen ∧ Stamped es clock ∧ (∀ x ∈ es.toList, ∃ kl, keyOf P k x.key = some kl) ∧ (ents es.toList).Perm l ∧
    w.heap[r]? = some (.mapIter (some b) since seen c0) ∧ (∀ x ∈ es.toList, x.born < since) ∧ since ≤ c0 ∧ since ≤ clock ∧ (ents (leftOf es seen).toList).Perm rest
section
variable {P : Program} {k : TypeId} {w w' : World} {b r : Nat} {l rest : List (Value × Value)} {S : Nat → Prop}
theorem RangeAt.mapAt (h : RangeAt P k w b r l rest) : MapAt P k w b l := by
  obtain ⟨es, clock, since, seen, c0, h1, h2, h3, h4, h5, _⟩ := h
  exact ⟨es, clock, h1, h2, h3, h4, h5⟩
theorem RangeAt.lt (h : RangeAt P k w b r l rest) : r < w.heap.size := by
  obtain ⟨es, clock, since, seen, c0, h1, h2, h3, h4, h5, h6, _⟩ := h
  exact (Array.getElem?_eq_some_iff.1 h6).1
theorem RangeAt.ne (h : RangeAt P k w b r l rest) : r ≠ b := by
  obtain ⟨es, clock, since, seen, c0, h1, h2, h3, h4, h5, h6, _⟩ := h
  intro e
  rw [e, h1] at h6
  cases h6
theorem RangeAt.keep (h : RangeAt P k w b r l rest) (hk : Keep S w w') (hb : ¬ S b) (hr : ¬ S r) : RangeAt P k w' b r l rest := by
  have h1 := h.mapAt.lt
  have h2 := h.lt
  obtain ⟨es, clock, since, seen, c0, g1, g2, g3, g4, g5, g6, g7⟩ := h
  exact ⟨es, clock, since, seen, c0, (hk.block b h1 hb).trans g1, g2, g3, g4, g5, (hk.block r h2 hr).trans g6, g7⟩
theorem RangeAt.perm {rest' : List (Value × Value)} (h : RangeAt P k w b r l rest) (hp : rest.Perm rest') : RangeAt P k w b r l rest' := by
  obtain ⟨es, clock, since, seen, c0, g1, g2, g3, g4, g5, g6, g7, g8, g9, g10⟩ := h
  exact ⟨es, clock, since, seen, c0, g1, g2, g3, g4, g5, g6, g7, g8, g9, g10.trans hp⟩
/-- range m. -/
theorem MapAt.range {t e : TypeId} (h : MapAt P k w b l) (ht : P.underlying t = some (.map k e)) :
    ∃ w', (Instr.range t (.map (some b))).run P w = .ok (.pointer (some ⟨w.heap.size, 0, none⟩)) w' ∧ RangeAt P k w' b w.heap.size l l ∧ Keep No w w' ∧ w'.heap.size = w.heap.size + 1 := by
  have hlt := h.lt
  obtain ⟨es, clock, h1, h2, h3, h4, h5⟩ := h
  refine ⟨_, run_range_map w t k e b es clock ht h1, ⟨es, clock, clock, #[], clock, ((MapKept.heap_alloc w _).2 b hlt).trans h1, h2, h3, h4, h5, (MapKept.heap_alloc w _).1, h3.1, Nat.le_refl _, Nat.le_refl _, ?_⟩, (Keep.refl No w).alloc _, by simp⟩
  have : leftOf es #[] = es := by simp [leftOf]
  rw [this]
  exact h5
theorem left_perm : ∀ {l : List MapEntry} {seen : Array Nat} {e : MapEntry}, (l.map (·.born)).Nodup → e ∈ l → seen.contains e.born = false →
    (l.filter fun x => !seen.contains x.born).Perm (e :: l.filter fun x => !(seen.push e.born).contains x.born)
  | [], _, _, _, h, _ => by simp at h
  | a :: l, seen, e, hn, h, hs => by
    rw [List.map_cons, List.nodup_cons] at hn
    rcases List.mem_cons.1 h with rfl | h
    · have e1 : (l.filter fun x => !(seen.push e.born).contains x.born) = l.filter fun x => !seen.contains x.born := List.filter_congr fun x hx => by
        have hne : (x.born == e.born) = false := beq_eq_false_iff_ne.2 fun e2 => hn.1 (e2 ▸ List.mem_map.2 ⟨x, hx, rfl⟩)
        rw [contains_push, hne, Bool.or_false]
      rw [List.filter_cons, hs, List.filter_cons, contains_push, e1]
      simp
    · have hne : (a.born == e.born) = false := beq_eq_false_iff_ne.2 fun e2 => hn.1 (e2 ▸ List.mem_map.2 ⟨e, h, rfl⟩)
      have ih := left_perm hn.2 h hs
      rw [List.filter_cons, List.filter_cons, contains_push, hne, Bool.or_false]
      by_cases hc : seen.contains a.born = true
      · rw [hc]; simpa using ih
      · rw [show seen.contains a.born = false by simpa using hc]
        simp only [Bool.not_false, if_true]
        exact (ih.cons a).trans (List.Perm.swap e a _)
/-- The step of a range. -/
theorem RangeAt.next (h : RangeAt P k w b r l rest) (ty : TypeId) :
    (rest = [] ∧ (Instr.next (.pointer (some ⟨r, 0, none⟩)) false ty).run P w = .ok (.tuple #[.bool false]) w) ∨
    ∃ key v rest' w', rest.Perm ((key, v) :: rest') ∧ (Instr.next (.pointer (some ⟨r, 0, none⟩)) false ty).run P w = .ok (.tuple #[.bool true, key, v]) w' ∧ RangeAt P k w' b r l rest' ∧ Keep (fun x => x = r) w w' ∧ w'.heap.size = w.heap.size ∧
      (Instr.entry (.pointer (some ⟨r, 0, none⟩))).run P w' = .ok (.tuple #[key, v]) w' := by
  have hne := h.ne
  obtain ⟨es, clock, since, seen, c0, h1, h2, h3, h4, h5, h6, h7, h8, h9, h10⟩ := h
  rcases run_next_at (P := P) w ty r b since c0 seen es clock h6 h1 h7 h8 with ⟨h0, hrun⟩ | ⟨e, he, w1, hal, hrun⟩
  · refine .inl ⟨?_, hrun⟩
    have hl : (ents (leftOf es seen).toList).length = 0 := by simp [ents, h0]
    have := h10.length_eq
    exact List.eq_nil_of_length_eq_zero (by omega)
  · obtain ⟨hem, hes⟩ := mem_left he
    have hr1 : w1.heap[r]? = some (.mapIter (some b) since seen c0) := by rcases hal with rfl | rfl <;> exact h6
    have hb1 : w1.heap[b]? = some (.map es clock) := by rcases hal with rfl | rfl <;> exact h1
    have hset := heap_set (o' := .mapIter (some b) since (seen.push e.born) clock) hr1
    have hb' : (setBlock w1 r (.mapIter (some b) since (seen.push e.born) clock)).heap[b]? = some (.map es clock) := (hset.2 b (fun e1 => hne e1.symm)).trans hb1
    have hnb : (es.toList.map (·.born)).Nodup := h3.2.1
    have hpl : (ents (leftOf es seen).toList).Perm ((e.key, e.val) :: ents (leftOf es (seen.push e.born)).toList) := by
      have := left_perm (seen := seen) hnb hem hes
      have e1 : ∀ s : Array Nat, (leftOf es s).toList = es.toList.filter fun x => !s.contains x.born := fun s => by simp [leftOf]
      rw [e1, e1]
      exact this.map (fun e : MapEntry => (e.key, e.val))
    refine .inr ⟨e.key, e.val, _, _, h10.symm.trans hpl, hrun, ⟨es, clock, since, seen.push e.born, clock, hb', h2, h3, h4, h5, hset.1, h7, h9, h9, List.Perm.refl _⟩, ?_, ?_, run_entry_at _ r b since seen es clock e hset.1 hb' hem hnb⟩
    · rcases hal with rfl | rfl <;> exact ⟨rfl, rfl, rfl, by simp [setBlock], fun i _ hi => hset.2 i hi⟩
    · rcases hal with rfl | rfl <;> simp [setBlock]
end

/-! ### At the operations -/
section
variable {P : Program} (w : World) {ops : Array Oper} {rest : List Oper} {o : Oper} {a : Act} {Q : Exit → Act → World → Prop}
theorem wpList_look (hg : o.guard = none) (m x : Operand) (t : TypeId) (c : Bool) (hop : o.op = Op.lookup t m x c) (k e : TypeId) (K : Keyed P k) (ht : P.underlying t = some (.map k e)) (b : Nat) (l : List (Value × Value)) (key v : Value)
    (hm : a.eval m = .map (some b)) (hx : a.eval x = key) (h : MapAt P k w b ((key, v) :: l)) (hK : wpList P ops Q rest (a.put o.dst (if c then .tuple #[v, .bool true] else v)) w) : wpList P ops Q (o :: rest) a w := by
  refine wpList_plain hg fun K' hK' => ?_
  have hrun := h.look c K ht
  unfold Oper.wp
  simp [execOp, hop, hm, hx, hrun, Result.andThen]
  exact hK' _ _ (by simpa using hK)
theorem wpList_look_no (hg : o.guard = none) (m x : Operand) (t : TypeId) (c : Bool) (hop : o.op = Op.lookup t m x c) (k e : TypeId) (K : Keyed P k) (ht : P.underlying t = some (.map k e)) (z : Value) (hz : (zeroValue e).run P w = .ok z w) (b : Nat) (l : List (Value × Value)) (key : Value) (kl : Lit)
    (hm : a.eval m = .map (some b)) (hx : a.eval x = key) (hkey : keyOf P k key = some kl) (h : MapAt P k w b l) (hn : ∀ p ∈ l, p.1 ≠ key) (hK : wpList P ops Q rest (a.put o.dst (if c then .tuple #[z, .bool false] else z)) w) : wpList P ops Q (o :: rest) a w := by
  refine wpList_plain hg fun K' hK' => ?_
  have hrun := h.look_no c hn K ht hz hkey
  unfold Oper.wp
  simp [execOp, hop, hm, hx, hrun, Result.andThen]
  exact hK' _ _ (by simpa using hK)
theorem wpList_store (hg : o.guard = none) (m x v : Operand) (t : TypeId) (hop : o.op = Op.mapUpdate t m x v) (k e : TypeId) (K : Keyed P k) (ht : P.underlying t = some (.map k e)) (b : Nat) (l : List (Value × Value)) (key old val : Value)
    (hm : a.eval m = .map (some b)) (hx : a.eval x = key) (hv : a.eval v = val) (h : MapAt P k w b ((key, old) :: l)) (hK : ∀ w', MapAt P k w' b ((key, val) :: l) → Keep (fun x => x = b) w w' → w'.heap.size = w.heap.size → wpList P ops Q rest (a.put o.dst undef) w') : wpList P ops Q (o :: rest) a w := by
  refine wpList_plain hg fun K' hK' => ?_
  obtain ⟨w', hrun, r1, r2, r3⟩ := h.store (val := val) K ht
  unfold Oper.wp
  simp [execOp, hop, hm, hx, hv, hrun, Result.andThen]
  exact hK' _ _ (hK w' r1 r2 r3)
theorem wpList_store_new (hg : o.guard = none) (m x v : Operand) (t : TypeId) (hop : o.op = Op.mapUpdate t m x v) (k e : TypeId) (K : Keyed P k) (ht : P.underlying t = some (.map k e)) (b : Nat) (l : List (Value × Value)) (key val : Value) (kl : Lit)
    (hm : a.eval m = .map (some b)) (hx : a.eval x = key) (hv : a.eval v = val) (hkey : keyOf P k key = some kl) (h : MapAt P k w b l) (hn : ∀ p ∈ l, p.1 ≠ key) (hroom : l.length < maxLen) (hK : ∀ w', MapAt P k w' b ((key, val) :: l) → Keep (fun x => x = b) w w' → w'.heap.size = w.heap.size → wpList P ops Q rest (a.put o.dst undef) w') : wpList P ops Q (o :: rest) a w := by
  refine wpList_plain hg fun K' hK' => ?_
  obtain ⟨w', hrun, r1, r2, r3⟩ := h.store_new (val := val) hn hroom K ht hkey
  unfold Oper.wp
  simp [execOp, hop, hm, hx, hv, hrun, Result.andThen]
  exact hK' _ _ (hK w' r1 r2 r3)
theorem wpList_drop (hg : o.guard = none) (m x : Operand) (t k : TypeId) (hop : o.op = Op.call { callee := Callee.builtin Builtin.delete, args := #[m, x], argTypes := #[t, k] }) (e : TypeId) (K : Keyed P k) (ht : P.underlying t = some (.map k e)) (b : Nat) (l : List (Value × Value)) (key v : Value)
    (hm : a.eval m = .map (some b)) (hx : a.eval x = key) (h : MapAt P k w b ((key, v) :: l)) (hK : ∀ w', MapAt P k w' b l → Keep (fun x => x = b) w w' → w'.heap.size = w.heap.size → wpList P ops Q rest (a.put o.dst (.tuple #[])) w') : wpList P ops Q (o :: rest) a w := by
  refine wpList_plain hg fun K' hK' => ?_
  obtain ⟨w', hrun, r1, r2, r3⟩ := h.drop o.type K ht
  unfold Oper.wp
  simp [execOp, hop, resolve, invoke, builtin, hm, hx, hrun, Result.andThen]
  exact hK' _ _ (hK w' r1 r2 r3)
theorem wpList_maplen (hg : o.guard = none) (m : Operand) (t : TypeId) (hop : o.op = Op.call { callee := Callee.builtin Builtin.len, args := #[m], argTypes := #[t] }) (k e : TypeId) (ht : P.underlying t = some (.map k e)) (b : Nat) (l : List (Value × Value)) (hm : a.eval m = .map (some b)) (h : MapAt P k w b l)
    (hK : wpList P ops Q rest (a.put o.dst (.int .i64 (l.length : Nat))) w) : wpList P ops Q (o :: rest) a w := by
  refine wpList_plain hg fun K' hK' => ?_
  unfold Oper.wp
  simp [execOp, hop, resolve, invoke, builtin, hm, h.len o.type ht, Result.andThen]
  exact hK' _ _ hK
theorem wpList_range (hg : o.guard = none) (m : Operand) (t : TypeId) (hop : o.op = Op.range t m) (k e : TypeId) (ht : P.underlying t = some (.map k e)) (b : Nat) (l : List (Value × Value)) (hm : a.eval m = .map (some b)) (h : MapAt P k w b l)
    (hK : ∀ w', RangeAt P k w' b w.heap.size l l → Keep No w w' → w'.heap.size = w.heap.size + 1 → wpList P ops Q rest (a.put o.dst (.pointer (some ⟨w.heap.size, 0, none⟩))) w') : wpList P ops Q (o :: rest) a w := by
  refine wpList_plain hg fun K' hK' => ?_
  obtain ⟨w', hrun, r1, r2, r3⟩ := h.range ht
  unfold Oper.wp
  simp [execOp, hop, hm, hrun, Result.andThen]
  exact hK' _ _ (hK w' r1 r2 r3)
theorem wpList_next (hg : o.guard = none) (it : Operand) (hop : o.op = Op.next it false) (k : TypeId) (b r : Nat) (l left : List (Value × Value)) (hit : a.eval it = .pointer (some ⟨r, 0, none⟩)) (h : RangeAt P k w b r l left)
    (hDone : left = [] → wpList P ops Q rest (a.put o.dst (.tuple #[.bool false])) w)
    (hMore : ∀ key v left' w', left.Perm ((key, v) :: left') → RangeAt P k w' b r l left' → Keep (fun x => x = r) w w' → w'.heap.size = w.heap.size → (Instr.entry (.pointer (some ⟨r, 0, none⟩))).run P w' = .ok (.tuple #[key, v]) w' → wpList P ops Q rest (a.put o.dst (.tuple #[.bool true, key, v])) w') : wpList P ops Q (o :: rest) a w := by
  refine wpList_plain hg fun K' hK' => ?_
  unfold Oper.wp
  rcases h.next o.type with ⟨h0, hrun⟩ | ⟨key, v, left', w', hp, hrun, h1, h2, h3, h4⟩
  · simp [execOp, hop, hit, hrun, Result.andThen]
    exact hK' _ _ (hDone h0)
  · simp [execOp, hop, hit, hrun, Result.andThen]
    exact hK' _ _ (hMore key v left' w' hp h1 h2 h3 h4)
end
end Go.Proofs.YtgabidgpngiecaaGreatKit
