/- The reference's big and Image. Conditions: each names its own. -/
import Derived.Test.YtgabidgpngiecaaGreatRL0
import Derived.Test.YtgabidgpngiecaaGreatFU0
import Derived.Test.YtgabidgpngiecaaGreatRT0
namespace Go.Proofs.YtgabidgpngiecaaGreat
open Go.RowKit Go.Proofs.YtgabidgpngiecaaGreatKit Go.Proofs.YtgabidgpngiecaaGreatPlain

theorem ob_new {B : Nat} {w : World} (a b : UInt8) (hB : B ≤ w.heap.size) : OB B (w.alloc (.cells #[byteV a, byteV b] 5)) (.slice (some ⟨w.heap.size, 0, none⟩) 2 2) [a, b] := by
  exact ⟨rfl, .inr ⟨w.heap.size, 2, #[byteV a, byteV b], rfl, hB, heap_alloc_new w _, Nat.le_refl _, by simp [maxLen], rfl, rfl⟩⟩
set_option maxHeartbeats 400000 in
theorem rbig_any {x : Int} (w : World) (hx : 0 ≤ x) (hx2 : x < 65536) :
    Calls Tryz.prog 55 #[.int .i64 x] w fun e w' => ∃ v, e = .returned v ∧ OB w.heap.size w' v (bigL x) ∧ Keep No w w' := by
  go_enter Tryz.func55, Tryz.ntmps55
  go_wp2_with fail
  go_ret
  refine ⟨_, rfl, ?_, (Keep.refl No w).alloc _⟩
  have h := ob_new (B := w.heap.size) (w := w) (byt (x / 256)) (byt x) (Nat.le_refl _)
  rw [← byt_low (by omega) (by omega), ← byt_mod] at h
  exact h

/-! ### Plain: groups of equal rows -/
theorem expand_at {L : List (Row × Nat)} {m : Nat} (hm : m < L.length) {j : Nat} (hj : j < L[m].2) : (expand L)[(expand (L.take m)).length + j]? = some L[m].1 := by
  have h := List.take_append_drop m L
  rw [← List.getElem_cons_drop hm] at h
  have h2 : expand L = expand (L.take m) ++ (List.replicate L[m].2 L[m].1 ++ expand (L.drop (m + 1))) := by
    rw [← expand_cons, ← expand_append, h]
  rw [h2, List.getElem?_append_right (by omega), show (expand (L.take m)).length + j - (expand (L.take m)).length = j from by omega, List.getElem?_append_left (by simpa using hj)]
  simp [hj]
theorem expand_next {L : List (Row × Nat)} (hc : Canon L) {m : Nat} (hm : m < L.length) {r : Row} (h : (expand L)[(expand (L.take m)).length + L[m].2]? = some r) : r ≠ L[m].1 := by
  by_cases hm2 : m + 1 < L.length
  · have hp := hc.pos _ (List.getElem_mem hm2)
    have h2 := expand_at hm2 (j := 0) hp
    have hl : (expand (L.take (m + 1))).length = (expand (L.take m)).length + L[m].2 := by
      rw [← List.take_append_getElem hm, expand_append, expand_cons]
      simp [expand]
    rw [hl, Nat.add_zero, h] at h2
    injection h2 with h2
    subst h2
    have := List.pairwise_iff_getElem.1 hc.rows m (m + 1) hm hm2 (by omega)
    exact fun e => this e.symm
  · have hl : (expand L).length = (expand (L.take m)).length + L[m].2 := by
      have h := List.take_append_drop m L
      rw [← List.getElem_cons_drop hm, List.drop_of_length_le (by omega)] at h
      have h2 := congrArg (fun s => (expand s).length) h
      simp only [expand_append, List.length_append] at h2
      rw [← h2, expand_cons]
      simp [expand]
    rw [List.getElem?_eq_none (by omega)] at h
    cases h
theorem expand_step {L : List (Row × Nat)} {m : Nat} (hm : m < L.length) : (expand (L.take (m + 1))).length = (expand (L.take m)).length + L[m].2 := by
  rw [← List.take_append_getElem hm, expand_append, expand_cons]
  simp [expand]
/-- The columns' bytes. -/
def colsL (r : Row) : Nat → List UInt8
  | 0 => []
  | c + 1 => colsL r c ++ bigL (r.x c + 1000)
theorem rowL_cols (p : Row × Nat) : rowL p = (colsL p.1 3 ++ [byt p.1.l]) ++ bigL (p.2 : Nat) := by
  simp [rowL, colsL, Row.x]
theorem ob_off {B base e : Nat} {w : World} {v : Value} {ys : List UInt8} (h : OB B w v ys) (hb : base ≤ B) (he : 5 ≠ e) : Off base e w (fun k => v.ownBlock = some k) := by
  intro k hk
  refine ⟨Nat.le_trans hb (h.lt k hk).1, ?_⟩
  rcases h.2 with ⟨rfl, _⟩ | ⟨g, cap, cur, rfl, _, h4, _⟩
  · cases hk
  · have hk' : g = k := by
      have := hk
      simp [Value.ownBlock] at this
      exact this
    subst hk'
    exact ⟨_, _, _, h4, he⟩
/-- Midway through the reference's Image. -/
structure ImS (B : Nat) (w W : World) (v : Value) (l : List Row) (ov : Value) (ys : List UInt8) : Prop where
  ro : RIn B W v l
  bs : B ≤ w.heap.size
  ob : OB w.heap.size W ov ys
  kp : Keep No w W
section
variable {B : Nat} {w W W' : World} {v ov ov' : Value} {l : List Row} {ys ys' : List UInt8}
theorem ImS.new_ (h : ImS B w W v l ov ys) (hk : Keep No W W') : ImS B w W' v l ov ys := ⟨h.ro.new_ hk, h.bs, h.ob.new_ hk, h.kp.trans hk (fun _ y => y.elim)⟩
theorem ImS.step (h : ImS B w W v l ov ys) (ho : OB w.heap.size W' ov' ys') (hk : Keep (fun k => ov.ownBlock = some k) W W') : ImS B w W' v l ov' ys' :=
  ⟨h.ro.off hk (ob_off h.ob h.bs (by decide)), h.bs, ho, h.kp.trans hk (fun k e => .inr (h.ob.lt k e).1)⟩
end

/-- An append of bytes to own bytes. -/
theorem ImS.push {B : Nat} {w W W' : World} {v ov ov' : Value} {l : List Row} {ys zs : List UInt8} {n : Nat} (h : ImS B w W v l ov ys) (h1 : W'.ownsRow w.heap.size 5 1 ov' (ys.length + n) (byteVs ys ++ byteVs zs)) (hl : zs.length = n) (hg : W.grownBy W' ov.ownBlock) : ImS B w W' v l ov' (ys ++ zs) :=
  h.step (OB.push h1 hl) (((Keep.refl _ W)).grown hg (fun _ e => .inl e))
theorem bigL_len (x : Int) : (bigL x).length = 2 := rfl
theorem colsL_len (r : Row) : ∀ c, (colsL r c).length = 2 * c
  | 0 => rfl
  | c + 1 => by rw [colsL, List.length_append, colsL_len r c, bigL_len]; omega
theorem flat_len : ∀ L : List (Row × Nat), ((L.map rowL).flatten).length = 9 * L.length := rows_length
set_option maxHeartbeats 2000000 in
set_option maxRecDepth 100000 in
theorem rimage_any {B : Nat} {w : World} {v : Value} {l : List Row} {L : List (Row × Nat)} (h : RIn B w v l) (hB : B ≤ w.heap.size) (hok : ∀ r ∈ l, okRow r) (hl : l.length ≤ 500) (hc : Canon L) (he : expand L = l) :
    Calls Tryz.prog 31 #[v] w fun e w' => ∃ v', e = .returned v' ∧ OB w.heap.size w' v' (imgL L) ∧ Keep No w w' := by
  have mixed : Tryz.prog.follows .mixedOrders = true := by kernel_rfl
  obtain ⟨i0, hi0, hz0, hz1, hz2⟩ := info_parts info_u8
  obtain ⟨A, c, rfl, hcp, _⟩ := id h
  have HC := Lib.hid (show _ ∧ _ ∧ _ from ⟨hc, he, hok⟩)
  have hLl : L.length ≤ 500 := by
    have := expand_len (s := L) (fun p hp => ⟨hc.pos p hp, hok _ (he ▸ mem_expand.2 ⟨p.2, hp, hc.pos p hp⟩)⟩)
    rw [he] at this
    omega
  have H0 := Lib.hid (show ImS B w w (.slice A l.length c) l (.slice none 0 0) [] from ⟨h, hB, OB.start _ _, Keep.refl _ _⟩)
  clear h hc he hok
  go_enter Tryz.func31, Tryz.ntmps31
  go_wp2_with fail
  go_loopg [3, 4, 5] L.length (fun kx s3 s4 s5 wr => ∃ m i : Nat, s4 = .int .i64 m ∧ s5 = .int .i64 i ∧ m ≤ L.length ∧ L.length ≤ m + kx ∧ i ≤ 500 ∧ Hid (i = (expand (L.take m)).length) ∧ Hid (ImS B w wr (.slice A l.length c) l s3 ((L.take m).map rowL).flatten))
  case atStart => exact ⟨0, 0, rfl, rfl, Nat.zero_le _, by omega, by omega, Lib.hid (by simp [expand]), H0⟩
  case round =>
    clear H0
    obtain ⟨m, i, rfl, rfl, hm, hmx, hi5, HI, HS⟩ := hrel
    have j0 : (0 : Int) ≤ (i : Int) := by omega
    by_cases hlt : m < L.length
    · have hp0 := HC.out.1.pos _ (List.getElem_mem hlt)
      have hend := expand_step hlt
      have hle : (expand (L.take (m + 1))).length ≤ l.length := by
        have h := congrArg (fun s => (expand s).length) (List.take_append_drop (m + 1) L)
        simp only [expand_append, List.length_append, HC.out.2.1] at h
        omega
      rw [← HI.out] at hend
      have hil : i < l.length := by omega
      have hgd : decide ((i : Int) < (l.length : Int)) = true := decide_eq_true (by omega)
      have hgd' : decide (i < l.length) = true := decide_eq_true hil
      have j1 : (i : Int) < (l.length : Int) := by omega
      have HEA := Lib.hid (fun j (hj : j < L[m].2) => show l[i + j]? = some L[m].1 from by
        have := expand_at hlt hj
        rwa [HC.out.2.1, ← HI.out] at this)
      have HEN := Lib.hid (fun r (h : l[i + L[m].2]? = some r) => show r ≠ L[m].1 from expand_next HC.out.1 hlt (by rw [HC.out.2.1, ← HI.out]; exact h))
      have HPR := Lib.hid (show ((L.take (m + 1)).map rowL).flatten = ((L.take m).map rowL).flatten ++ rowL L[m] from rows_take hlt)
      have HOKR := Lib.hid (show okRow L[m].1 from HC.out.2.2 _ (HC.out.2.1 ▸ mem_expand.2 ⟨L[m].2, List.getElem_mem hlt, hp0⟩))
      have hyl : (((L.take m).map rowL).flatten).length ≤ 5000 := by rw [rows_length, List.length_take]; omega
      have HEND := Lib.hid hend
      have htl : i + L[m].2 ≤ l.length := by omega
      clear hend hle
      obtain ⟨r, t, hrt⟩ : ∃ r t, L[m] = (r, t) := ⟨_, _, rfl⟩
      rw [hrt] at hp0 HEA HEN HPR HOKR HEND htl
      dsimp only at hp0 HEA HEN HPR HOKR HEND htl
      clear hrt
      go_upto_block 2 with fail
      go_cut [6] (fun s6 wc => s6 = .int .i64 t ∧ Hid (ImS B w wc (.slice A l.length c) l u3 ((L.take m).map rowL).flatten))
      case first =>
        go_wp2_with fail
        go_loopg [6] t (fun ky s6 wr => ∃ n : Nat, s6 = .int .i64 n ∧ 1 ≤ n ∧ n ≤ t ∧ t ≤ n + ky ∧ Hid (ImS B w wr (.slice A l.length c) l u3 ((L.take m).map rowL).flatten))
        case atStart => exact ⟨1, rfl, by omega, by omega, by omega, HS⟩
        case round =>
          clear HS
          obtain ⟨n, rfl, hn1, hnt, hny, HS⟩ := hrel
          have q0 : (0 : Int) ≤ (n : Int) := by omega
          obtain ⟨q, hq⟩ : ∃ q, q = i + n := ⟨_, rfl⟩
          have tq : ((i : Int) + (n : Int)).toNat = q := by omega
          have i0' : (0 : Int) ≤ (i : Int) + (n : Int) := by omega
          by_cases hnt2 : n < t
          · have hql : q < l.length := by omega
            have i1 : (i : Int) + (n : Int) < (l.length : Int) := by omega
            have hgq : decide ((i : Int) + (n : Int) < (l.length : Int)) = true := decide_eq_true i1
            obtain ⟨A0, c0, eA, _, hR⟩ := HS.out.ro
            injection eA with eA en ec
            clear en
            subst eA
            subst ec
            have er : l[i] = r := by
              have := HEA.out 0 (by omega)
              rw [Nat.add_zero, List.getElem?_eq_getElem hil] at this
              exact Option.some.inj this
            have eq_ : l[q] = r := by
              have := HEA.out n (by omega)
              rw [← hq, List.getElem?_eq_getElem hql] at this
              exact Option.some.inj this
            obtain ⟨ad, hA, _, e0, e1, e2, e3⟩ := hR.at_ hil
            obtain ⟨ad', hA', _, f0, f1, f2, f3⟩ := hR.at_ hql
            obtain rfl : ad = ad' := Option.some.inj (hA.symm.trans hA')
            subst hA
            rw [er] at e0 e1 e2 e3
            rw [eq_] at f0 f1 f2 f3
            have heq := fun W => eqR HOKR.out HOKR.out W
            rw [decide_eq_true rfl] at heq
            have HQ := Lib.hid hq
            clear hR hA' er eq_ hq
            go_wp2_with fail
            go_quiet (fail)
            clear e0 e1 e2 e3 f0 f1 f2 f3 heq tq i0' i1 hgq
            go_wp2_with fail
            go_roundg (t - (n + 1))
            case measure => omega
            case rel => exact ⟨n + 1, by go_num, by omega, by omega, by omega, Lib.hid (HS.out.new_ ((Keep.refl No _).drewN _))⟩
          · obtain rfl : n = t := by omega
            clear hnt hny hnt2
            by_cases hql : i + n < l.length
            · have i1 : (i : Int) + (n : Int) < (l.length : Int) := by omega
              have hgq : decide ((i : Int) + (n : Int) < (l.length : Int)) = true := decide_eq_true i1
              obtain ⟨A0, c0, eA, _, hR⟩ := HS.out.ro
              injection eA with eA en ec
              clear en
              subst eA
              subst ec
              have er : l[i] = r := by
                have := HEA.out 0 (by omega)
                rw [Nat.add_zero, List.getElem?_eq_getElem hil] at this
                exact Option.some.inj this
              have hne := HEN.out l[i + n] (List.getElem?_eq_getElem hql)
              have hokq := HC.out.2.2 _ (List.getElem_mem hql)
              obtain ⟨ad, hA, _, e0, e1, e2, e3⟩ := hR.at_ hil
              obtain ⟨ad', hA', _, f0, f1, f2, f3⟩ := hR.at_ hql
              obtain rfl : ad = ad' := Option.some.inj (hA.symm.trans hA')
              subst hA
              rw [er] at e0 e1 e2 e3
              have heq := fun W => eqR hokq HOKR.out W
              rw [decide_eq_false hne] at heq
              generalize l[i + n] = r' at *
              rw [← hq] at f0 f1 f2 f3
              have HQ := Lib.hid hq
              clear hR hA' er hne hokq hq hql
              go_wp2_with fail
              go_quiet (fail)
              clear e0 e1 e2 e3 f0 f1 f2 f3 heq tq i0' i1 hgq
              go_wp2_with fail
              go_meet
              exact ⟨rfl, Lib.hid (HS.out.new_ ((Keep.refl No _).drewN _))⟩
            · have i1 : ¬ (i : Int) + (n : Int) < (l.length : Int) := by omega
              have hgq : decide ((i : Int) + (n : Int) < (l.length : Int)) = false := decide_eq_false i1
              clear hq tq
              go_wp2_with fail
              go_quiet (fail)
              clear i0' i1 hgq
              go_wp2_with fail
              go_meet
              exact ⟨rfl, Lib.hid (HS.out.new_ ((Keep.refl No _).drewN _))⟩
      case rest =>
        clear HS
        obtain ⟨rfl, HS⟩ := hcut
        have er : l[i] = r := by
          have := HEA.out 0 (by omega)
          rw [Nat.add_zero, List.getElem?_eq_getElem hil] at this
          exact Option.some.inj this
        have HER := Lib.hid er
        obtain ⟨Y, hY⟩ : ∃ Y, Y = ((L.take m).map rowL).flatten := ⟨_, rfl⟩
        rw [← hY] at hyl HS HPR
        have HS0 := Lib.hid (show ImS B w wc (.slice A l.length c) l u3 (Y ++ colsL r 0) from by rw [colsL, List.append_nil]; exact HS.out)
        clear hY er HS
        go_wp2_with fail
        go_loopg [3, 7] 3 (fun ky s3 s7 wr => ∃ c2 : Nat, s7 = .int .i64 c2 ∧ c2 ≤ 3 ∧ 3 ≤ c2 + ky ∧ Hid (ImS B w wr (.slice A l.length c) l s3 (Y ++ colsL r c2)))
        case atStart => exact ⟨0, rfl, by omega, by omega, HS0⟩
        case round =>
          clear HS0
          obtain ⟨c2, rfl, hc2, hcy, HS⟩ := hrel
          have q0 : (0 : Int) ≤ (c2 : Int) := by omega
          by_cases hc3 : c2 < 3
          · have q1 : (c2 : Int) < 3 := by omega
            have hgc : decide ((c2 : Int) < 3) = true := decide_eq_true q1
            have hgc' : decide (c2 < 3) = true := decide_eq_true hc3
            obtain ⟨A0, c0, eA, _, hR⟩ := HS.out.ro
            injection eA with eA en ec
            clear en
            subst eA
            subst ec
            obtain ⟨ad, hA, ex⟩ := RowsIn.x hR hil hc3
            subst hA
            rw [HER.out] at ex
            have hax := HOKR.out.x c2
            have HCO := Lib.hid (show colsL r (c2 + 1) = colsL r c2 ++ bigL (r.x c2 + 1000) from rfl)
            have hcl := colsL_len r c2
            obtain ⟨a, ha⟩ : ∃ a, a = r.x c2 := ⟨_, rfl⟩
            rw [← ha] at ex hax HCO
            have HBg := Lib.hid (fun W => rbig_any (x := a + 1000) W (by omega) (by omega))
            have hyl2 : (Y ++ colsL r c2).length ≤ 5100 := by rw [List.length_append]; omega
            generalize colsL r c2 = cz at *
            clear hR ha hcl
            go_wp2_with (first
              | (go_at_call 55; refine (HBg.out _).mono ?_; rintro e w5 ⟨v5, rfl, hob5, hk5⟩; have hsh5 := hob5.shape; obtain ⟨A5, c5, rfl, _⟩ := hsh5; have HS5 := Lib.hid (HS.out.new_ hk5); have HB5 := Lib.hid hob5; clear hob5 hk5)
              | (at_builtin; refine wpList_append_any _ rfl (.tmp 37) (.tmp 46) _ rfl w.heap.size 5 i0 _ 1 1 Tryz.underlying64 hi0 hz0 hz1 hz2 rfl (by omega) _ _ _ rfl HS5.out.ob 0 A5 _ c5 (byteVs (bigL (a + 1000))) rfl HB5.out.bytes (byteVs_one _) (by simp only [maxLen, bigL_len]; omega) (by simp only [bigL_len]; omega) HS5.out.kp.size ?_; intro v6 w6 hown hg _; have HS6 := Lib.hid (HS5.out.push hown rfl hg); clear hown hg))
            go_roundg (3 - (c2 + 1))
            case measure => omega
            case rel => exact ⟨c2 + 1, by go_num, by omega, by omega, by rw [HCO.out, ← List.append_assoc]; exact HS6⟩
          · obtain rfl : c2 = 3 := by omega
            have hgc : decide ((3 : Int) < 3) = false := rfl
            obtain ⟨A0, c0, eA, _, hR⟩ := HS.out.ro
            injection eA with eA en ec
            clear en
            subst eA
            subst ec
            obtain ⟨ad, hA, _, _, _, _, eL⟩ := hR.at_ hil
            subst hA
            rw [HER.out] at eL
            have hlb := HOKR.out.2.2.2
            have HPL := Lib.hid (show Y ++ rowL (r, t) = ((Y ++ colsL r 3) ++ [byt r.l]) ++ bigL (t : Nat) from by rw [rowL_cols]; simp)
            have hcl := colsL_len r 3
            have hyl2 : (Y ++ colsL r 3).length ≤ 5100 := by rw [List.length_append]; omega
            obtain ⟨rl, hrl⟩ : ∃ rl, rl = r.l := ⟨_, rfl⟩
            rw [← hrl] at eL hlb HPL
            have ht5 : t ≤ 500 := by omega
            have HBg := Lib.hid (fun W => rbig_any (x := (t : Nat)) W (by omega) (by omega))
            generalize colsL r 3 = cz at *
            clear hR hrl hcl
            go_wp2_with (first
              | (at_builtin; refine wpList_append_any _ rfl (.tmp 48) (.tmp 55) _ rfl w.heap.size 5 i0 _ 1 1 Tryz.underlying64 hi0 hz0 hz1 hz2 rfl (by omega) _ _ _ rfl (HS.out.ob.alloc _) 0 _ 1 1 (byteVs [byt rl]) rfl (reads_one _ _ _ _ rfl (by first | exact byt_low (by omega) (by omega) | exact byt_mod rl)) (byteVs_one _) (by simp only [maxLen]; omega) (by omega) (by have := HS.out.kp.size; simp; omega) ?_; intro v6 w6 hown hg _; have HS6 := Lib.hid ((HS.out.new_ ((Keep.refl No _).alloc _)).push hown rfl hg); clear hown hg)
              | (go_at_call 55; refine (HBg.out _).mono ?_; rintro e w5 ⟨v5, rfl, hob5, hk5⟩; have hsh5 := hob5.shape; obtain ⟨A5, c5, rfl, _⟩ := hsh5; have HS5 := Lib.hid (HS6.out.new_ hk5); have HB5 := Lib.hid hob5; clear hob5 hk5)
              | (at_builtin; refine wpList_append_any _ rfl (.tmp 56) (.tmp 58) _ rfl w.heap.size 5 i0 _ 1 1 Tryz.underlying64 hi0 hz0 hz1 hz2 rfl (by omega) _ _ _ rfl HS5.out.ob 0 A5 _ c5 (byteVs (bigL (t : Nat))) rfl HB5.out.bytes (byteVs_one _) (by simp only [maxLen, bigL_len, List.length_append, List.length_cons, List.length_nil] at *; omega) (by simp only [bigL_len, List.length_append, List.length_cons, List.length_nil] at *; omega) HS5.out.kp.size ?_; intro v7 w7 hown hg _; have HS7 := Lib.hid (HS5.out.push hown rfl hg); clear hown hg))
            have HE2 := Lib.hid (show i + t = (expand (L.take (m + 1))).length from HEND.out.symm)
            have HF := Lib.hid (show ImS B w w7 (.slice (some ad) l.length c) l v7 ((L.take (m + 1)).map rowL).flatten from by rw [HPR.out, HPL.out]; exact HS7.out)
            have hit : i + t ≤ 500 := by omega
            clear HS7 HS5 HS6 HB5 HPL
            go_roundg (L.length - (m + 1))
            case measure => omega
            case rel => exact ⟨m + 1, i + t, by go_num, by go_num, by omega, by omega, hit, HE2, HF⟩
    · obtain rfl : m = L.length := by omega
      have hil : i = l.length := by rw [HI.out, List.take_length, HC.out.2.1]
      have hgd : decide ((i : Int) < (l.length : Int)) = false := decide_eq_false (by omega)
      have hgd' : decide (i < l.length) = false := decide_eq_false (by omega)
      have HSE := Lib.hid (show ImS B w wr (.slice A l.length c) l u3 ((L.map rowL).flatten) from by have h := HS.out; rwa [List.take_length] at h)
      have hsh := HSE.out.ob.shape
      obtain ⟨A6, c6, rfl, _⟩ := hsh
      have hyl : ((L.map rowL).flatten).length ≤ 5000 := by rw [rows_length]; omega
      have HIL := Lib.hid hil
      have HIM := Lib.hid (show imgL L = bigL (L.length : Nat) ++ (L.map rowL).flatten from rfl)
      generalize (L.map rowL).flatten = Y at *
      have HBg := Lib.hid (fun W => rbig_any (x := (L.length : Nat)) W (by omega) (by omega))
      clear hil HS HI
      go_wp2_with (first
        | (go_at_call 55; refine (HBg.out _).mono ?_; rintro e w5 ⟨v5, rfl, hob5, hk5⟩; have HS5 := Lib.hid (HSE.out.new_ hk5); have HB5 := Lib.hid hob5; have HK5 := Lib.hid hk5; clear hob5 hk5)
        | (at_builtin; refine wpList_append_any _ rfl (.tmp 66) (.tmp 67) _ rfl wr.heap.size 5 i0 _ 1 1 Tryz.underlying64 hi0 hz0 hz1 hz2 rfl (by omega) _ _ _ rfl HB5.out 0 A6 _ c6 (byteVs Y) rfl HS5.out.ob.bytes (byteVs_one _) (by simp only [maxLen, bigL_len]; omega) (by simp only [bigL_len]; omega) HK5.out.size ?_; intro v7 w7 hown hg _; have H7 := Lib.hid (show OB w.heap.size w7 v7 (imgL L) ∧ Keep No w w7 from ⟨by rw [HIM.out]; exact own_weak (OB.push hown rfl) HSE.out.kp.size, HS5.out.kp.trans ((Keep.refl _ w5).grown hg (fun _ e => .inl e)) (fun k e => .inr (Nat.le_trans HSE.out.kp.size (HB5.out.lt k e).1))⟩); clear hown hg))
      go_ret
      exact ⟨_, rfl, H7.out.1, H7.out.2⟩
end Go.Proofs.YtgabidgpngiecaaGreat
