/- What order hands out, as bytes that may be written over. Conditions: each names its own. -/
import Derived.Test.YtdmckjojeddaaaaPA
import Derived.Test.YtdmckjojeddaaaaU6
import Derived.Test.YtdmckjojeddaaaaV2
import Derived.Test.YtdmckjojeddaaaaLD
import Derived.Test.YtdmckjojeddaaaaW1
import Derived.Test.YtdmckjojeddaaaaPC
namespace Go.Proofs.Ytdmckjojeddaaaa
open Go.RowKit Go.Proofs.YtdmckjojeddaaaaKit Go.Proofs.YtdmckjojeddaaaaPlain

/-- A row of records that begin with two slices of bytes that may be written over. -/
def HandR (T size B : Nat) (w : World) (A : Option Addr) (n : Nat) : Prop :=
  0 < n → ∃ g cs, A = some ⟨g, 0, none⟩ ∧ B ≤ g ∧ Blk w g T cs ∧ ∀ k, k < n → ∃ A1 n1 c1 A2 n2 c2, cs[k * size]? = some (Value.slice A1 n1 c1) ∧ cs[k * size + 1]? = some (Value.slice A2 n2 c2) ∧ BW B w A1 n1 ∧ BW B w A2 n2 ∧ n1 ≤ 1000000 ∧ n2 ≤ 1000000
section
variable {T size B : Nat} {w w' : World} {A : Option Addr} {n : Nat}
theorem HandR.soft (h : HandR T size B w A n) (k : Soft B w w') (hT : T ≠ 5) : HandR T size B w' A n := fun hn => by
  obtain ⟨g, cs, e, hg, hb, hc⟩ := h hn
  refine ⟨g, cs, e, hg, k.other g T cs hg hb hT, fun j hj => ?_⟩
  obtain ⟨A1, n1, c1, A2, n2, c2, e1, e2, b1, b2, h3⟩ := hc j hj
  exact ⟨A1, n1, c1, A2, n2, c2, e1, e2, b1.soft k, b2.soft k, h3⟩
theorem HandR.low {B' : Nat} (h : HandR T size B w A n) (hB : B' ≤ B) : HandR T size B' w A n := fun hn => by
  obtain ⟨g, cs, e, hg, hb, hc⟩ := h hn
  refine ⟨g, cs, e, Nat.le_trans hB hg, hb, fun j hj => ?_⟩
  obtain ⟨A1, n1, c1, A2, n2, c2, e1, e2, b1, b2, h3⟩ := hc j hj
  exact ⟨A1, n1, c1, A2, n2, c2, e1, e2, b1.low hB, b2.low hB, h3⟩
theorem HandR.at_ (h : HandR T size B w A n) {k : Nat} (hk : k < n) : ∃ ad A1 n1 c1 A2 n2 c2, A = some ad ∧ w.cell? (ad.add (k * size)) = some (.slice A1 n1 c1) ∧ w.cell? ⟨(ad.add (k * size)).block, (ad.add (k * size)).off + 1, none⟩ = some (.slice A2 n2 c2) ∧
    BW B w A1 n1 ∧ BW B w A2 n2 ∧ n1 ≤ 1000000 ∧ n2 ≤ 1000000 := by
  obtain ⟨g, cs, e, hg, hb, hc⟩ := h (by omega)
  obtain ⟨A1, n1, c1, A2, n2, c2, e1, e2, b1, b2, h3⟩ := hc k hk
  exact ⟨_, A1, n1, c1, A2, n2, c2, e, by rw [add_head]; exact (hb.cell _).trans e1, by rw [add_field _ _ 1 (by omega), add_head]; exact (hb.cell _).trans e2, b1, b2, h3⟩
theorem HandR.of_own {α : Type} {R : α → List Value → Prop} {l : List α} {xs : List Value} {c : Nat} (ho : w.ownsRow B T size (.slice A l.length c) l.length xs) (hf : Flat R size l xs) (hs : 2 ≤ size)
    (hR : ∀ x cs, x ∈ l → R x cs → ∃ A1 n1 c1 A2 n2 c2 rest, cs = Value.slice A1 n1 c1 :: Value.slice A2 n2 c2 :: rest ∧ BW B w A1 n1 ∧ BW B w A2 n2 ∧ n1 ≤ 1000000 ∧ n2 ≤ 1000000) : HandR T size B w A l.length := fun hn => by
  rcases ho.2 with ⟨e, _⟩ | ⟨g, cap, cur, e, h3, h4, _⟩
  · injection e with _ e; omega
  · injection e with e1 e2 e3
    subst e1
    refine ⟨g, cur, rfl, h3, h4, fun k hk => ?_⟩
    obtain ⟨cs, hr, hl, hg⟩ := hf.get (List.getElem?_eq_getElem hk)
    obtain ⟨A1, n1, c1, A2, n2, c2, rest, rfl, b1, b2, h5⟩ := hR _ _ (List.getElem_mem hk) hr
    have hc := fun j u (hu : xs[j]? = some u) => (show cur[j]? = some u from by
      have h6 := ho.cells (g := g) rfl j u hu
      rw [add_head, (Blk.cell (show Blk w g T cur from h4) j)] at h6
      exact h6)
    exact ⟨A1, n1, c1, A2, n2, c2, hc _ _ (hg 0 _ rfl), hc _ _ (hg 1 _ rfl), b1, b2, h5⟩
end

theorem bw_of_some {B : Nat} {w : World} {A : Option Addr} {n c lo : Nat} {bs : List UInt8} (h : w.ownsRow lo 5 1 (.slice A n c) n (byteVs bs)) (hB : B ≤ lo) : BW B w A n := BW.of_own h hB
/-- Get, as bytes that may be written over. -/
theorem mget_bw {base : Nat} {w : World} {seed : Int} {mb : Nat} {l : PairL} {F : List Nat} {A : Option Addr} {n c : Nat} {key : List UInt8} (h : MSt base w mb seed l F) (hk : Bytes base w A n key) :
    Calls Try.prog 55 #[.pointer (some ⟨mb, 0, none⟩), .slice A n c] w fun e w' => ∃ A1 n1 c1 x, e = .returned (.tuple #[.slice A1 n1 c1, .int .i64 x]) ∧ BW w.heap.size w' A1 n1 ∧ n1 ≤ 1000000 ∧ Keep No w w' := by
  have hok := h.okay
  refine (mget_any h hk).mono ?_
  rintro e w' ⟨hkp, hm⟩
  cases hg : getL l key with
  | none => rw [hg] at hm; exact ⟨none, 0, 0, 3, hm, fun h => by omega, by omega, hkp⟩
  | some v =>
    rw [hg] at hm
    obtain ⟨A1, c1, rfl, _, ho⟩ := hm
    have := getL_okay hok hg
    exact ⟨A1, _, c1, 0, rfl, BW.of_own ho (Nat.le_refl _), by omega, hkp⟩
/-- At, likewise. -/
theorem mat_bw {base : Nat} {w : World} {seed : Int} {mb : Nat} {l : PairL} {F : List Nat} (i : Int) (h : MSt base w mb seed l F) (hsz : l.length ≤ 900000) :
    Calls Try.prog 56 #[.pointer (some ⟨mb, 0, none⟩), .int .i64 i] w fun e w' => ∃ A1 n1 c1 A2 n2 c2 x, e = .returned (.tuple #[.agg #[.slice A1 n1 c1, .slice A2 n2 c2], .int .i64 x]) ∧ BW w.heap.size w' A1 n1 ∧ BW w.heap.size w' A2 n2 ∧ n1 ≤ 1000000 ∧ n2 ≤ 1000000 ∧ Keep No w w' := by
  have hok := h.okay.small
  refine (mat_any i h hsz).mono ?_
  rintro e w' hm
  cases hg : atL l i with
  | none => rw [hg] at hm; exact ⟨none, 0, 0, none, 0, 0, 3, hm.1, fun h => by omega, fun h => by omega, by omega, by omega, hm.2⟩
  | some p =>
    rw [hg] at hm
    obtain ⟨A1, c1, A2, c2, rfl, tw⟩ := hm
    have hp : p ∈ l := by
      unfold atL at hg
      split at hg
      · cases hg
      · exact List.mem_of_getElem? hg
    have hs := hok p hp
    exact ⟨A1, _, c1, A2, _, c2, 0, rfl, BW.of_own tw.1 (Nat.le_refl _), BW.of_own tw.2.1 (Nat.le_refl _), hs.1, hs.2, tw.2.2.2.2.2⟩
/-- A row that is handed out. -/
def HandRet (T size : Nat) (w : World) (e : Ending) (w' : World) : Prop := ∃ A n c, e = .returned (.slice A n c) ∧ HandR T size w.heap.size w' A n ∧ n ≤ 1000000 ∧ Keep No w w'
theorem FlatI.each {w : World} : ∀ {l : List Pair} {lo hi : Nat} {xs : List Value}, FlatI w lo l xs hi → Flat (PairAt w lo hi) 2 l xs
  | [], _, _, _, h => h.1
  | p :: l, lo, hi, xs, h => by
    obtain ⟨mid, cs, ys, e, h1, h2, h3⟩ := h
    have hle := h3.le
    have hcs : cs.length = 2 := by obtain ⟨_, _, _, _, e, _⟩ := h2; rw [e]; rfl
    refine ⟨cs, ys, e, hcs, ?_, (FlatI.each h3).mono (fun q zs hq => ?_)⟩
    · obtain ⟨A, c, B, d, e, o1, o2, l1, l2, r⟩ := h2
      exact ⟨A, c, B, d, e, o1, o2, fun k hk => Nat.lt_of_lt_of_le (l1 k hk) hle, fun k hk => Nat.lt_of_lt_of_le (l2 k hk) hle, r⟩
    · obtain ⟨A, c, B, d, e, o1, o2, r⟩ := hq
      exact ⟨A, c, B, d, e, ownsRow_weak o1 h1, ownsRow_weak o2 h1, r⟩
theorem span_bw {base : Nat} {w : World} {seed : Int} {mb : Nat} {l : PairL} {F : List Nat} (h : MSt base w mb seed l F) (hb : base ≤ w.heap.size) (hsz : l.length ≤ 900000) :
    Calls Try.prog 37 #[.pointer (some ⟨mb, 0, none⟩), .slice none 0 0, .slice none 0 0, .bool false] w (HandRet 82 2 w) := by
  have hok := h.okay.small
  refine (show Calls Try.prog 37 #[.pointer (some ⟨mb, 0, none⟩), .slice none 0 0, .slice none 0 0, .bool false] w (OrdRet w.heap.size w (spanL [] [] false l)) from span_any h hb hsz Bytes.none_ Bytes.none_).mono ?_
  rw [spanL_whole]
  rintro e w' ⟨A, c, rfl, hc, ⟨xs, h1, h2⟩, hk⟩
  exact ⟨A, _, c, rfl, HandR.of_own h1 (FlatI.each h2) (by omega) (fun p cs hp hr => by
    obtain ⟨A1, c1, A2, c2, e, o1, o2, _⟩ := hr
    exact ⟨A1, _, c1, A2, _, c2, [], e, BW.of_own o1 (Nat.le_refl _), BW.of_own o2 (Nat.le_refl _), hok p hp⟩), by omega, hk⟩
theorem nodes_bw {base : Nat} {w : World} {seed : Int} {mb : Nat} {l : PairL} {F : List Nat} (h : MSt base w mb seed l F) (hb : base ≤ w.heap.size) (hsz : l.length ≤ 900000) :
    Calls Try.prog 22 #[.pointer (some ⟨mb, 0, none⟩)] w (HandRet 44 6 w) := by
  have hok := h.okay
  have hnl := nodesL_length seed l
  refine (nodes_own h hb hsz).mono ?_
  rintro e w' ⟨A, c, rfl, hc, ⟨xs, h1, h2⟩, hk⟩
  exact ⟨A, _, c, rfl, HandR.of_own h1 h2 (by omega) (fun x cs hx hr => by
    obtain ⟨A1, c1, A2, c2, e, o1, o2, _⟩ := hr
    have hko := nodesL_okay (seed := seed) hok x hx
    exact ⟨A1, _, c1, A2, _, c2, _, e, o1.2.2, o2.2.2, by have := hko.2.1; omega, by have := hko.2.2; omega⟩), by omega, hk⟩
theorem prove_bw {base : Nat} {w : World} {seed : Int} {mb : Nat} {l : PairL} {F : List Nat} {A : Option Addr} {n c : Nat} {key : List UInt8} (h : MSt base w mb seed l F) (hk : Bytes base w A n key) (hb : base ≤ w.heap.size) (hsz : l.length ≤ 900000) :
    Calls Try.prog 28 #[.pointer (some ⟨mb, 0, none⟩), .slice A n c] w (HandRet 29 4 w) := by
  have hall := h.nodesAll
  have hpl := proveL_length seed l key
  refine (prove_own h hk hb hsz).mono ?_
  rintro e w' ⟨A, c, rfl, hc, ⟨xs, h1, h2⟩, hk⟩
  exact ⟨A, _, c, rfl, HandR.of_own h1 h2 (by omega) (fun x cs hx hr => by
    obtain ⟨A1, c1, A2, c2, e, o1, o2, _⟩ := hr
    obtain ⟨⟨q1, q2, q3⟩, _⟩ := hall.2 key x hx
    exact ⟨A1, _, c1, A2, _, c2, _, e, o1.2.2, o2.2.2, by omega, by omega⟩), by omega, hk⟩
theorem own_bw {w w' : World} {ys : List UInt8} {A : Option Addr} {n c : Nat} (h : Own w ys (.slice A n c) w') : BW w.heap.size w' A n := by
  have := h.num
  subst this
  exact BW.of_own h.1 (Nat.le_refl _)
end Go.Proofs.Ytdmckjojeddaaaa
