/- OrderYields: the range, whole. Conditions: each names its own. -/
import Derived.Test.YtdmckjojeddaaaaYE
import Derived.Test.YtdmckjojeddaaaaYF
namespace Go.Proofs.Ytdmckjojeddaaaa
open Go.RowKit Go.Proofs.YtdmckjojeddaaaaKit Go.Proofs.YtdmckjojeddaaaaPlain
attribute [local go_sem] Oper.semAt_some

/-- Behind a range: how many rounds there were. -/
def Ranged (L : PairL) (stop : Int) (xs : List Came) : Prop := (prs xs = L ∧ ¬ (1 ≤ stop ∧ stop ≤ ((xs.length : Nat) : Int))) ∨ (prs xs <+: L ∧ ((xs.length : Nat) : Int) = stop ∧ xs ≠ [])

set_option maxHeartbeats 8000000 in
set_option maxRecDepth 200000 in
theorem range0 {lim base : Nat} {w W0 : World} {b5 b6 b7 b10 b13 b14 mb bx : Nat} {stop : Int} {A : Option Addr} {n c : Nat} {B : Option Addr} {n2 c2 : Nat} {seed : Int} {dd : List Nat} {L : PairL} {F : List Nat} {key value : List UInt8}
    (hI : YI ⟨lim, base, w, W0, b5, b6, b7, b10, b13, b14, mb, stop, 0, A, n, c, B, n2, c2, seed, dd⟩ (yat L key value) [] W0) (hm : MSt base W0 mb seed L F) (hbx : W0.cell? ⟨bx, 0, none⟩ = some (.pointer (some ⟨mb, 0, none⟩))) (hbl2 : bx < W0.heap.size) (hlim : lim ≤ W0.heap.size) (hbl : base ≤ lim)
    (hk : Bytes base w A n key) (hv : Bytes base w B n2 value) (hok : keyOk key value) (hsz : L.length ≤ 400) {ds : List Deferred} {y0 y3 y4 y8 y9 y11 y12 y15 y16 y17 y18 y19 y20 y21 y22 y23 y24 y25 y26 y27 y28 y29 y30 y31 y32 y33 y34 y35 y36 y37 y38 y39 y40 y41 y42 y43 y44 y45 y46 y47 y48 y49 y50 y51 y52 y53 y54 y55 y56 y57 y59 y60 y61 y62 y63 y64 y65 y66 y67 y68 y69 y70 y71 y72 y73 y74 y75 y76 y77 y78 y79 y80 y81 y82 y83 y84 y85 y86 y87 y88 y89 y90 y91 y92 y93 y94 y95 y96 y97 y98 y99 y100 y101 y102 y103 y104 y105 y106 y107 y108 y109 y110 y111 y112 y113 y114 y115 y116 y117 y118 y119 y120 y121 y122 y123 y124 y125 y126 y127 y128 y129 y130 y131 y132 y133 y134 y135 y136 y137 y138 y139 y140 y141 y142 y143 y144 y145 y146 y147 y148 y149 y150 y151 y152 y153 y154 y155 y156 y157 y158 y159 y160 y161 y162 : Value} {Q : Exit → Act → World → Prop}
    (hQ : ∀ (e : Exit) (D : Nat) (xs : List Came) (W : World), (e = .normal ∨ e = .exit 2) → W0.heap.size ≤ D → W.heap[D]? = some (.deferred (some [])) → YI ⟨lim, base, w, W0, b5, b6, b7, b10, b13, b14, mb, stop, 0, A, n, c, B, n2, c2, seed, dd⟩ (yat L key value) xs W → Ranged L stop xs → Q e { tmps := #[y0, .pointer (some ⟨w.heap.size, 0, none⟩), .pointer (some ⟨w.heap.size + 1, 0, none⟩), y3, y4, .pointer (some ⟨b5, 0, none⟩), .pointer (some ⟨b6, 0, none⟩), .pointer (some ⟨b7, 0, none⟩), y8, y9, .pointer (some ⟨b10, 0, none⟩), y11, y12, .pointer (some ⟨b13, 0, none⟩), .pointer (some ⟨b14, 0, none⟩), y15, y16, y17, y18, y19, y20, y21, y22, y23, y24, y25, y26, y27, y28, y29, y30, y31, y32, y33, y34, y35, y36, y37, y38, y39, y40, y41, y42, y43, y44, y45, y46, y47, y48, y49, y50, y51, y52, y53, y54, y55, y56, y57, .func (.func 79) #[] #[.pointer (some ⟨bx, 0, none⟩)], y59, y60, y61, y62, y63, y64, y65, y66, y67, y68, y69, y70, y71, y72, y73, y74, y75, y76, y77, y78, y79, y80, y81, y82, y83, y84, y85, y86, y87, y88, y89, y90, y91, y92, y93, y94, y95, y96, y97, y98, y99, y100, y101, y102, y103, y104, y105, y106, y107, y108, y109, y110, y111, y112, y113, y114, y115, y116, y117, y118, y119, y120, y121, y122, y123, y124, y125, y126, y127, y128, y129, y130, y131, y132, y133, y134, y135, y136, y137, y138, y139, y140, y141, y142, y143, y144, y145, y146, y147, y148, y149, y150, y151, y152, y153, y154, y155, y156, y157, y158, y159, y160, y161, y162], defers := { target := .collected D, args := #[] } :: ds } W) :
    yRange.wp Try.prog Q { tmps := #[y0, .pointer (some ⟨w.heap.size, 0, none⟩), .pointer (some ⟨w.heap.size + 1, 0, none⟩), y3, y4, .pointer (some ⟨b5, 0, none⟩), .pointer (some ⟨b6, 0, none⟩), .pointer (some ⟨b7, 0, none⟩), y8, y9, .pointer (some ⟨b10, 0, none⟩), y11, y12, .pointer (some ⟨b13, 0, none⟩), .pointer (some ⟨b14, 0, none⟩), y15, y16, y17, y18, y19, y20, y21, y22, y23, y24, y25, y26, y27, y28, y29, y30, y31, y32, y33, y34, y35, y36, y37, y38, y39, y40, y41, y42, y43, y44, y45, y46, y47, y48, y49, y50, y51, y52, y53, y54, y55, y56, y57, .func (.func 79) #[] #[.pointer (some ⟨bx, 0, none⟩)], y59, y60, y61, y62, y63, y64, y65, y66, y67, y68, y69, y70, y71, y72, y73, y74, y75, y76, y77, y78, y79, y80, y81, y82, y83, y84, y85, y86, y87, y88, y89, y90, y91, y92, y93, y94, y95, y96, y97, y98, y99, y100, y101, y102, y103, y104, y105, y106, y107, y108, y109, y110, y111, y112, y113, y114, y115, y116, y117, y118, y119, y120, y121, y122, y123, y124, y125, y126, y127, y128, y129, y130, y131, y132, y133, y134, y135, y136, y137, y138, y139, y140, y141, y142, y143, y144, y145, y146, y147, y148, y149, y150, y151, y152, y153, y154, y155, y156, y157, y158, y159, y160, y161, y162], defers := ds } W0 := by
  have hL : Sorted L ∧ Okay L := ⟨hm.sorted, hm.okay⟩
  have hw0 : w.heap.size ≤ W0.heap.size := hI.st.k.size
  have hseq := seq_any (n := 2) (by omega) hm (Nat.le_trans hbl hlim) (by omega) hbx hbl2
  conv => arg 2; whnf
  dsimp only at hQ ⊢
  refine (wpIn_wide (n := 3)).1 ?_
  refine wpIn_rangeR (F := Fence.wide) rfl (by omega) (gf := 79) (lb := #[.pointer (some ⟨bx, 0, none⟩)]) rfl trivial (enters_of Try.func79 (by kernel_rfl) rfl) hseq (fun _ => rfl) Came.stable
    (YN ⟨lim, base, w, W0, b5, b6, b7, b10, b13, b14, mb, stop, 0, A, n, c, B, n2, c2, seed, dd⟩ (yat L key value))
    (YX ⟨lim, base, w, W0, b5, b6, b7, b10, b13, b14, mb, stop, 0, A, n, c, B, n2, c2, seed, dd⟩ (yat L key value))
    (fun s A B S hs hk hn hB => ⟨hs.1.stable (Nat.le_refl _) hw0 hk hn hB, hs.2⟩)
    (fun cd s A B S hs hk hn hB => ⟨hs.1, hs.2.1.stable (Nat.le_refl _) hw0 hk hn hB, hs.2.2⟩)
    ⟨hI, fun h => by have h1 := h.1; have h2 := h.2; dsimp only [List.length_nil] at h1 h2; omega⟩ (fun x => { tmps := #[y0, .pointer (some ⟨w.heap.size, 0, none⟩), .pointer (some ⟨w.heap.size + 1, 0, none⟩), y3, y4, .pointer (some ⟨b5, 0, none⟩), .pointer (some ⟨b6, 0, none⟩), .pointer (some ⟨b7, 0, none⟩), y8, y9, .pointer (some ⟨b10, 0, none⟩), y11, y12, .pointer (some ⟨b13, 0, none⟩), .pointer (some ⟨b14, 0, none⟩), .slice x.A x.k.length x.c, .slice x.B x.v.length x.d, y17, y18, y19, y20, y21, y22, y23, y24, y25, y26, y27, y28, y29, y30, y31, y32, y33, y34, y35, y36, y37, y38, y39, y40, y41, y42, y43, y44, y45, y46, y47, y48, y49, y50, y51, y52, y53, y54, y55, y56, y57, .func (.func 79) #[] #[.pointer (some ⟨bx, 0, none⟩)], .slice x.A x.k.length x.c, .slice x.B x.v.length x.d, y61, y62, y63, y64, y65, y66, y67, y68, y69, y70, y71, y72, y73, y74, y75, y76, y77, y78, y79, y80, y81, y82, y83, y84, y85, y86, y87, y88, y89, y90, y91, y92, y93, y94, y95, y96, y97, y98, y99, y100, y101, y102, y103, y104, y105, y106, y107, y108, y109, y110, y111, y112, y113, y114, y115, y116, y117, y118, y119, y120, y121, y122, y123, y124, y125, y126, y127, y128, y129, y130, y131, y132, y133, y134, y135, y136, y137, y138, y139, y140, y141, y142, y143, y144, y145, y146, y147, y148, y149, y150, y151, y152, y153, y154, y155, y156, y157, y158, y159, y160, y161, y162], defers := [] }) ?assign ?body ?done ?stop
  case assign =>
    intro l x W K hK
    dsimp only [Came.enc] at hK ⊢
    gi_wp2
    exact hK
  case done =>
    rintro D ys W hD hF hI hK
    exact hQ .normal D ys W (.inl rfl) hD hK hI.1 (.inl ⟨hF, hI.2⟩)
  case stop =>
    rintro D cd pre W hD hP ⟨rfl, hI, hst, _, hne⟩ hK
    refine wpIn_wide.2 (wp_exit ?_)
    exact hQ (.exit 2) D pre W (.inr rfl) hD hK hI (.inr ⟨hP, hst, hne⟩)
  case body =>
    intro yy pre x W hI hM hsp hWs
    exact body0 hI.1 hM (Nat.le_refl _) hlim hbl hk hv hok hL hsz hI.2
set_option maxHeartbeats 8000000 in
set_option maxRecDepth 200000 in
theorem range1 {lim base : Nat} {w W0 : World} {b5 b6 b7 b10 b13 b14 mb bx : Nat} {stop : Int} {A : Option Addr} {n c : Nat} {B : Option Addr} {n2 c2 : Nat} {seed : Int} {dd : List Nat} {L : PairL} {F : List Nat}
    (hI : YI ⟨lim, base, w, W0, b5, b6, b7, b10, b13, b14, mb, stop, 1, A, n, c, B, n2, c2, seed, dd⟩ (fun _ => L) [] W0) (hm : MSt base W0 mb seed L F) (hbx : W0.cell? ⟨bx, 0, none⟩ = some (.pointer (some ⟨mb, 0, none⟩))) (hbl2 : bx < W0.heap.size) (hlim : lim ≤ W0.heap.size) (hbl : base ≤ lim)
    (hsz : L.length ≤ 401) {ds : List Deferred} {y0 y3 y4 y8 y9 y11 y12 y15 y16 y17 y18 y19 y20 y21 y22 y23 y24 y25 y26 y27 y28 y29 y30 y31 y32 y33 y34 y35 y36 y37 y38 y39 y40 y41 y42 y43 y44 y45 y46 y47 y48 y49 y50 y51 y52 y53 y54 y55 y56 y57 y59 y60 y61 y62 y63 y64 y65 y66 y67 y68 y69 y70 y71 y72 y73 y74 y75 y76 y77 y78 y79 y80 y81 y82 y83 y84 y85 y86 y87 y88 y89 y90 y91 y92 y93 y94 y95 y96 y97 y98 y99 y100 y101 y102 y103 y104 y105 y106 y107 y108 y109 y110 y111 y112 y113 y114 y115 y116 y117 y118 y119 y120 y121 y122 y123 y124 y125 y126 y127 y128 y129 y130 y131 y132 y133 y134 y135 y136 y137 y138 y139 y140 y141 y142 y143 y144 y145 y146 y147 y148 y149 y150 y151 y152 y153 y154 y155 y156 y157 y158 y159 y160 y161 y162 : Value} {Q : Exit → Act → World → Prop}
    (hQ : ∀ (D : Nat) (xs : List Came) (W : World), W0.heap.size ≤ D → W.heap[D]? = some (.deferred (some [])) → YI ⟨lim, base, w, W0, b5, b6, b7, b10, b13, b14, mb, stop, 1, A, n, c, B, n2, c2, seed, dd⟩ (fun _ => L) xs W → prs xs = L → Q .normal { tmps := #[y0, .pointer (some ⟨w.heap.size, 0, none⟩), .pointer (some ⟨w.heap.size + 1, 0, none⟩), y3, y4, .pointer (some ⟨b5, 0, none⟩), .pointer (some ⟨b6, 0, none⟩), .pointer (some ⟨b7, 0, none⟩), y8, y9, .pointer (some ⟨b10, 0, none⟩), y11, y12, .pointer (some ⟨b13, 0, none⟩), .pointer (some ⟨b14, 0, none⟩), y15, y16, y17, y18, y19, y20, y21, y22, y23, y24, y25, y26, y27, y28, y29, y30, y31, y32, y33, y34, y35, y36, y37, y38, y39, y40, y41, y42, y43, y44, y45, y46, y47, y48, y49, y50, y51, y52, y53, y54, y55, y56, y57, .func (.func 79) #[] #[.pointer (some ⟨bx, 0, none⟩)], y59, y60, y61, y62, y63, y64, y65, y66, y67, y68, y69, y70, y71, y72, y73, y74, y75, y76, y77, y78, y79, y80, y81, y82, y83, y84, y85, y86, y87, y88, y89, y90, y91, y92, y93, y94, y95, y96, y97, y98, y99, y100, y101, y102, y103, y104, y105, y106, y107, y108, y109, y110, y111, y112, y113, y114, y115, y116, y117, y118, y119, y120, y121, y122, y123, y124, y125, y126, y127, y128, y129, y130, y131, y132, y133, y134, y135, y136, y137, y138, y139, y140, y141, y142, y143, y144, y145, y146, y147, y148, y149, y150, y151, y152, y153, y154, y155, y156, y157, y158, y159, y160, y161, y162], defers := { target := .collected D, args := #[] } :: ds } W) :
    yRange.wp Try.prog Q { tmps := #[y0, .pointer (some ⟨w.heap.size, 0, none⟩), .pointer (some ⟨w.heap.size + 1, 0, none⟩), y3, y4, .pointer (some ⟨b5, 0, none⟩), .pointer (some ⟨b6, 0, none⟩), .pointer (some ⟨b7, 0, none⟩), y8, y9, .pointer (some ⟨b10, 0, none⟩), y11, y12, .pointer (some ⟨b13, 0, none⟩), .pointer (some ⟨b14, 0, none⟩), y15, y16, y17, y18, y19, y20, y21, y22, y23, y24, y25, y26, y27, y28, y29, y30, y31, y32, y33, y34, y35, y36, y37, y38, y39, y40, y41, y42, y43, y44, y45, y46, y47, y48, y49, y50, y51, y52, y53, y54, y55, y56, y57, .func (.func 79) #[] #[.pointer (some ⟨bx, 0, none⟩)], y59, y60, y61, y62, y63, y64, y65, y66, y67, y68, y69, y70, y71, y72, y73, y74, y75, y76, y77, y78, y79, y80, y81, y82, y83, y84, y85, y86, y87, y88, y89, y90, y91, y92, y93, y94, y95, y96, y97, y98, y99, y100, y101, y102, y103, y104, y105, y106, y107, y108, y109, y110, y111, y112, y113, y114, y115, y116, y117, y118, y119, y120, y121, y122, y123, y124, y125, y126, y127, y128, y129, y130, y131, y132, y133, y134, y135, y136, y137, y138, y139, y140, y141, y142, y143, y144, y145, y146, y147, y148, y149, y150, y151, y152, y153, y154, y155, y156, y157, y158, y159, y160, y161, y162], defers := ds } W0 := by
  have hL : Sorted L ∧ Okay L := ⟨hm.sorted, hm.okay⟩
  have hw0 : w.heap.size ≤ W0.heap.size := hI.st.k.size
  have hseq := seq_any (n := 2) (by omega) hm (Nat.le_trans hbl hlim) (by omega) hbx hbl2
  conv => arg 2; whnf
  dsimp only at hQ ⊢
  refine (wpIn_wide (n := 3)).1 ?_
  refine wpIn_rangeR (F := Fence.wide) rfl (by omega) (gf := 79) (lb := #[.pointer (some ⟨bx, 0, none⟩)]) rfl trivial (enters_of Try.func79 (by kernel_rfl) rfl) hseq (fun _ => rfl) Came.stable
    (YI ⟨lim, base, w, W0, b5, b6, b7, b10, b13, b14, mb, stop, 1, A, n, c, B, n2, c2, seed, dd⟩ (fun _ => L))
    (YX ⟨lim, base, w, W0, b5, b6, b7, b10, b13, b14, mb, stop, 1, A, n, c, B, n2, c2, seed, dd⟩ (fun _ => L))
    (fun s A B S hs hk hn hB => hs.stable (Nat.le_refl _) hw0 hk hn hB)
    (fun cd s A B S hs hk hn hB => ⟨hs.1, hs.2.1.stable (Nat.le_refl _) hw0 hk hn hB, hs.2.2⟩)
    hI (fun x => { tmps := #[y0, .pointer (some ⟨w.heap.size, 0, none⟩), .pointer (some ⟨w.heap.size + 1, 0, none⟩), y3, y4, .pointer (some ⟨b5, 0, none⟩), .pointer (some ⟨b6, 0, none⟩), .pointer (some ⟨b7, 0, none⟩), y8, y9, .pointer (some ⟨b10, 0, none⟩), y11, y12, .pointer (some ⟨b13, 0, none⟩), .pointer (some ⟨b14, 0, none⟩), .slice x.A x.k.length x.c, .slice x.B x.v.length x.d, y17, y18, y19, y20, y21, y22, y23, y24, y25, y26, y27, y28, y29, y30, y31, y32, y33, y34, y35, y36, y37, y38, y39, y40, y41, y42, y43, y44, y45, y46, y47, y48, y49, y50, y51, y52, y53, y54, y55, y56, y57, .func (.func 79) #[] #[.pointer (some ⟨bx, 0, none⟩)], .slice x.A x.k.length x.c, .slice x.B x.v.length x.d, y61, y62, y63, y64, y65, y66, y67, y68, y69, y70, y71, y72, y73, y74, y75, y76, y77, y78, y79, y80, y81, y82, y83, y84, y85, y86, y87, y88, y89, y90, y91, y92, y93, y94, y95, y96, y97, y98, y99, y100, y101, y102, y103, y104, y105, y106, y107, y108, y109, y110, y111, y112, y113, y114, y115, y116, y117, y118, y119, y120, y121, y122, y123, y124, y125, y126, y127, y128, y129, y130, y131, y132, y133, y134, y135, y136, y137, y138, y139, y140, y141, y142, y143, y144, y145, y146, y147, y148, y149, y150, y151, y152, y153, y154, y155, y156, y157, y158, y159, y160, y161, y162], defers := [] }) ?assign ?body ?done ?stop
  case assign =>
    intro l x W K hK
    dsimp only [Came.enc] at hK ⊢
    gi_wp2
    exact hK
  case done =>
    rintro D ys W hD hF hI hK
    exact hQ D ys W hD hK hI hF
  case stop =>
    rintro D cd pre W hD hP ⟨_, _, _, h, _⟩ hK
    cases h
  case body =>
    intro yy pre x W hI hM hsp hWs
    exact body1 hI hM (Nat.le_refl _) hlim hbl rfl hL hsz
end Go.Proofs.Ytdmckjojeddaaaa
