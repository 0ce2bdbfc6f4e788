/- Contract of order's Put. Conditions: it names its own. -/
import Derived.Test.YtdmckjojeddaaaaT7
namespace Go.Proofs.Ytdmckjojeddaaaa
open Go.RowKit Go.Proofs.YtdmckjojeddaaaaKit Go.Proofs.YtdmckjojeddaaaaPlain

/-- A map lies in memory. -/
structure MObj (base : Nat) (w : World) (mb : Nat) (seed : Int) (t : AT) : Prop where
  has : MapHas base w mb seed t.ptr
  rep : Rep base w seed t
  nodup : t.blocks.Nodup
theorem MObj.keep {base : Nat} {w w1 : World} {mb : Nat} {seed : Int} {t : AT} {S : Nat → Prop} (h : MObj base w mb seed t) (hk : Keep S w w1) (hs : ∀ b, S b → Mut base w b) (h1 : ¬ S mb) (h2 : ∀ b ∈ t.blocks, ¬ S b) : MObj base w1 mb seed t :=
  ⟨h.has.keep hk h1, h.rep.keep hk hs h2, h.nodup⟩
theorem MObj.new_ {base : Nat} {w w1 : World} {mb : Nat} {seed : Int} {t : AT} (h : MObj base w mb seed t) (hk : Keep No w w1) : MObj base w1 mb seed t := h.keep hk (fun _ x => x.elim) (fun x => x) (fun _ _ x => x)
theorem MObj.mut {base : Nat} {w : World} {mb : Nat} {seed : Int} {t : AT} (h : MObj base w mb seed t) : ∀ x, In (mb :: t.blocks) x → Mut base w x := fun x hx => (List.mem_cons.1 hx).elim (fun e => e ▸ h.has.mut) (fun h' => h.rep.mut x h')

section
variable {P : Program} (w : World)
theorem step_append_any {ops : Array Oper} {o : Oper} {a : Act} {K : Act → World → Prop} {Q : Exit → Act → World → Prop} {E : Prop} (hgd : o.guard = none) (s x : Operand) (t : TypeId)
    (ho : o.op = .call { callee := .builtin .append, args := #[s, x], argTypes := #[t, t] })
    (base : Nat) (e : TypeId) (i : TypeInfo) (z : Value) (size bytes : Nat) (ht : P.underlying t = some (.slice e)) (hi : P.info? e = some i) (hz : i.zero = some z)
    (hsize : i.size = size) (hby : i.bytes = bytes) (hzs : z.cells.size = size) (hsz : 0 < size)
    (v : Value) (n : Nat) (xs : List Value) (hs : a.eval s = v) (hown : w.ownsRow base e size v n xs)
    (B : Nat) (A : Option Addr) (m c : Nat) (news : List Value) (hx : a.eval x = .slice A m c) (hr : Reads B w e size A m news) (h1 : ∀ u ∈ news, u.oneCell' = true)
    (h63 : n + m ≤ maxLen) (hbytes : (n + m) * bytes ≤ 140737488355328) (hbase : base ≤ w.heap.size)
    (h : ∀ v' w', w'.ownsRow base e size v' (n + m) (xs ++ news) → w.grownBy w' v.ownBlock → (v'.ownBlock = v.ownBlock ∨ v'.ownBlock = some w.heap.size) → K (a.put o.dst v') w') :
    if Region.wanted o (yielded ops a.tmps) = true then Oper.wp P o a w K Q else E := by
  have hw : Region.wanted o (yielded ops a.tmps) = true := by simp [Region.wanted, hgd]
  rw [if_pos hw]
  exact wp_append_any w s x t ho base e i z size bytes ht hi hz hsize hby hzs hsz v n xs hs hown B A m c news hx hr h1 h63 hbytes hbase h
end

theorem key_kept1 {W w1 : World} {b size n : Nat} {e : TypeId} {v : Value} {xs : List Value} {o : Obj} (h : W.ownsRow b e size v n xs) (hg : (W.alloc o).grownBy w1 (Value.slice (some ⟨W.heap.size, 0, none⟩) 0 0).ownBlock) : w1.ownsRow b e size v n xs :=
  World.ownsRow.kept (h.alloc o) hg (by
    cases hv : v.ownBlock with
    | none => exact .inl rfl
    | some k => have := (World.ownsRow.lt h k hv).2; refine .inr (fun e => ?_); simp [Value.ownBlock] at e; omega)
theorem key_kept2 {w W w1 : World} {size n : Nat} {e : TypeId} {v : Value} {xs : List Value} {o : Obj} (h : W.ownsRow (w.alloc o).drew.heap.size e size v n xs) (hg : W.grownBy w1 (Value.slice (some ⟨w.heap.size, 0, none⟩) 0 0).ownBlock) : w1.ownsRow (w.alloc o).drew.heap.size e size v n xs :=
  World.ownsRow.kept h hg (by
    cases hv : v.ownBlock with
    | none => exact .inl rfl
    | some k => have := (World.ownsRow.lt h k hv).1; refine .inr (fun e => ?_); simp [Value.ownBlock] at e; simp [World.drew] at this; omega)
theorem grown_keep {w W0 W1 : World} {nb : Nat} (hk : Keep No w W0) (hg : W0.grownBy W1 (Value.slice (some ⟨nb, 0, none⟩) 0 0).ownBlock) (hnb : w.heap.size ≤ nb) : Keep No w W1 :=
  hk.grown hg (fun k e => by simp [Value.ownBlock] at e; exact .inr (by omega))
theorem grown_cell {w W0 W1 : World} {nb mb i : Nat} {v : Value} (hg : W0.grownBy W1 (Value.slice (some ⟨nb, 0, none⟩) 0 0).ownBlock) (hnb : w.heap.size ≤ nb) (hmb : mb < w.heap.size) (hc : W0.cell? ⟨mb, i, none⟩ = some v) : W1.cell? ⟨mb, i, none⟩ = some v :=
  hg.cell hc (fun e => by simp [Value.ownBlock] at e; omega)

set_option maxHeartbeats 4000000 in
set_option maxRecDepth 100000 in
theorem Put_ok {base : Nat} {w : World} {seed : Int} {mb : Nat} {t : AT} {A B : Option Addr} {n c m d : Nat} {key value : List UInt8} (h : MObj base w mb seed t) (hk : Bytes base w A n key) (hv : Bytes base w B m value)
    (hok : keyOk key value) (hsz : t.size < 100000) (hbase : base ≤ w.heap.size) :
    Calls Try.prog 43 #[.pointer (some ⟨mb, 0, none⟩), .slice A n c, .slice B m d] w fun e w' =>
      ∃ nb, w.heap.size ≤ nb ∧ e = .returned (.int .i64 0) ∧ MObj base w' mb seed (t.put seed nb key value) ∧ Keep (In (mb :: t.blocks)) w w' := by
  obtain ⟨i0, hi0, hz0, hz1, hz2⟩ := info_parts info_u8
  obtain rfl := hk.len
  obtain rfl := hv.len
  have HR := Lib.hid (real_any h.has)
  have HFD := Lib.hid (find_any (c := c) h.has h.rep hk)
  have HCN := Lib.hid (count_any h.rep)
  obtain ⟨m0, m1, m2⟩ := h.has.cells
  have hml := h.has.2.lt
  have HO := Lib.hid h
  have HK := Lib.hid hk
  have HV := Lib.hid hv
  have k1 : ¬ key.length < 1 := by have := hok.1; omega
  have k2 : ¬ 64 < key.length := by have := hok.2.1; omega
  have k3 : ¬ 1000 < value.length := by have := hok.2.2; omega
  have HOK := Lib.hid hok
  have hkr := Lib.hid (Keep.refl No w)
  clear h hk hv hok
  have hcz : decide ((100000 : Int) ≤ ((t.size : Nat) : Int)) = false := by simp; omega
  have hszz := Lib.hid hsz
  generalize ((t.size : Nat) : Int) = z at HCN hcz
  clear hsz
  generalize t.find key = q at HFD
  cases q
  case' nil =>
    go_enter Try.func43, Try.ntmps43
    go_wp2_with (first
      | (go_at_call 64; refine HR.out.mono ?_; rintro e w' ⟨rfl, rfl⟩)
      | (go_at_call 82; refine HFD.out.mono ?_; rintro e w' ⟨rfl, rfl, _⟩; rw [ptr_nil])
      | (go_at_call 68; refine HCN.out.mono ?_; rintro e w' ⟨rfl, rfl⟩))
  case' node =>
    go_enter Try.func43, Try.ntmps43
    go_wp2_with (first
      | (go_at_call 64; refine HR.out.mono ?_; rintro e w' ⟨rfl, rfl⟩)
      | (go_at_call 82; refine HFD.out.mono ?_; rintro e w' ⟨rfl, rfl, _⟩; rw [ptr_node]))
  all_goals
    go_region_held3 (fun w' => w'.cell? ⟨mb, 1, none⟩ = some (.int .u64 seed) ∧ Keep No w w')
      (first
        | exact ⟨m1, (Keep.refl No w).drew⟩
        | (go_split_ands; exact ⟨(hkd.cell (p := ⟨mb, 1, none⟩) (Nat.lt_of_lt_of_le hml (Keep.size (by assumption))) (fun x => x)).trans (by assumption), Keep.trans (by assumption) hkd (fun _ x => x.elim)⟩)
        | (go_split_ands; exact ⟨(World.cell?_alloc_lt _ _ _ (Nat.lt_of_lt_of_le hml (Keep.size (by assumption)))).trans (by assumption), Keep.alloc (by assumption) _⟩)
        | (go_split_ands; exact ⟨grown_cell hgrow (by first | exact hkd.size | exact Nat.le_refl _) hml (by assumption), grown_keep (by assumption) hgrow (by first | exact hkd.size | exact Nat.le_refl _)⟩)
        | go_keep)
      (first
        | (go_split_ands; (refine step_append_any _ (by rfl) _ _ _ (by rfl) w.heap.size 5 i0 _ 1 1 Try.underlying23 hi0 hz0 hz1 hz2 rfl (by omega) _ 0 [] (by rfl) (own_empty (by first | exact hkd.size | exact Nat.le_refl _)) base B _ _ (byteVs value) (by rfl) (HV.out.new_ (by assumption)) (byteVs_one _) (by simp only [maxLen]; omega) (by omega) (Keep.size (by assumption)) ?_); intro v1 w1 hown1 hgrow hat; rw [Nat.zero_add, List.nil_append] at hown1; obtain ⟨A9, c9, hv9, hc9⟩ := own_slice hown1; subst hv9; clear hat hc9)
        | (go_split_ands; (refine step_append_any _ (by rfl) _ _ _ (by rfl) w.heap.size 5 i0 _ 1 1 Try.underlying23 hi0 hz0 hz1 hz2 rfl (by omega) _ 0 [] (by rfl) (own_keep (own_empty (by first | exact hkd.size | exact Nat.le_refl _)) hkd.of_drew (fun _ _ x => x)) base B _ _ (byteVs value) (by rfl) (HV.out.new_ (by assumption)) (byteVs_one _) (by simp only [maxLen]; omega) (by omega) (Keep.size (by assumption)) ?_); intro v1 w1 hown1 hgrow hat; rw [Nat.zero_add, List.nil_append] at hown1; obtain ⟨A9, c9, hv9, hc9⟩ := own_slice hown1; subst hv9; clear hat hc9)
        | (go_at_call 62; go_split_ands; refine (bclone A _ c key _ (HK.out.new_ (by assumption)) (by omega)).mono ?_; rintro e w1 ⟨Ak, ck, rfl, hck, hownk, hkd⟩)
        | (go_at_call 83; go_split_ands; refine (coin_any seed 3 A _ c key _ (HK.out.new_ (by assumption)) (by omega)).mono ?_; rintro e w1 ⟨rfl, rfl⟩))
    all_goals
      have kw : Keep No w w1 := by assumption
      have bk : Bytes base w1 Ak key.length key := by first | exact Bytes.of_own (key_kept1 hownk hgrow) | exact Bytes.of_own (key_kept2 hownk hgrow)
      have bv : Bytes base w1 A9 value.length value := Bytes.of_own hown1
      have hN : Node base (w1.alloc (.cells #[.slice Ak key.length ck, .slice A9 value.length c9, .int .u64 (coin seed 3 key), .pointer none, .pointer none, .int .i64 0, .int .u64 0] 121)) seed w1.heap.size key value none none 0 0 :=
        ⟨Nat.le_trans hbase kw.size, HOK.out, Ak, ck, A9, c9, Blk.new _ _ _, bk.alloc _, bv.alloc _⟩
      have kw2 := kw.alloc (.cells #[.slice Ak key.length ck, .slice A9 value.length c9, .int .u64 (coin seed 3 key), .pointer none, .pointer none, .int .i64 0, .int .u64 0] 121)
      have hO := HO.out.new_ kw2
      have hnb : w1.heap.size ∉ t.blocks := fun h => by have := HO.out.rep.lt h; have := kw.size; omega
      have hnbw := kw.size
      have HP := Lib.hid (put_any t _ hO.has hO.rep hO.nodup hN hnb (by have := hszz.out; omega))
      have H2 := Lib.hid (show _ ∧ _ ∧ _ from ⟨hO, hN, kw2⟩)
      have q2 := hO.has.cells.2.2
      generalize w1.heap.size = nb at *
      generalize w1.alloc (.cells #[.slice Ak key.length ck, .slice A9 value.length c9, .int .u64 (coin seed 3 key), .pointer none, .pointer none, .int .i64 0, .int .u64 0] 121) = wn at *
      clear hownk hkd hgrow hown1 kw bk bv hN kw2 hO HR HFD HCN HK HV m0 m1 m2
      go_wp2_with fail
      refine HP.out.mono ?_
      rintro e w3 ⟨rfl, hr3, hk3⟩
      have hmt : ∀ x, In (nb :: t.blocks) x → Mut base wn x := fun x hx => (List.mem_cons.1 hx).elim (fun e => e ▸ H2.out.2.1.mut) (fun h => H2.out.1.rep.mut x h)
      have M3 := H2.out.1.has.keep hk3 (fun h => (List.mem_cons.1 h).elim (H2.out.1.has.ne_node H2.out.2.1) (H2.out.1.has.ne H2.out.1.rep))
      have f2 := M3.2.frozen 2
      have g2 := M3.cells.2.2
      have H3 := Lib.hid (show _ ∧ _ ∧ _ from ⟨M3, hr3, hk3⟩)
      clear HP M3 hr3 hk3 hmt q2
      go_wp2
      go_ret
      obtain ⟨M3, hr3, hk3⟩ := H3.out
      have S4 : Keep (Only mb) w3 (w3.setCell ⟨mb, 2, none⟩ (.pointer (t.put seed nb key value).ptr)) := (Keep.refl (Only mb) w3).setCell (p := ⟨mb, 2, none⟩) (.inl rfl) _
      refine ⟨nb, hnbw, rfl, ⟨⟨M3.1, M3.2.set_ 2 _⟩, hr3.keep S4 (fun x e => e ▸ M3.mut) (fun x hx e => ?_), put_nodup H2.out.1.nodup hnb⟩, ?_⟩
      · subst e
        exact M3.ne hr3 hx
      · exact ((H2.out.2.2.mono (S' := In (mb :: t.blocks)) (fun _ x => x.elim)).trans hk3 (fun x e => (List.mem_cons.1 e).elim (fun e => .inr (e ▸ hnbw)) (fun h => .inl (List.mem_cons_of_mem _ h)))).trans S4 (fun x e => .inl (e ▸ List.mem_cons_self))

end Go.Proofs.Ytdmckjojeddaaaa
