/-
  No cell of these rows narrows 'for every input' (looked for: loops, veiled, ifaces, maps, wideKeys, modest, calm, conditions, laid).
  DERIVED. THE GIVEN ROWS OF THIS SEAT. 12 by the template 'for every input the law returns true; each argument reads behind the call as it read before'; 0 by the template 'total and deterministic' (their statements: YtdmckjojeddaaaaTotals.lean).
  GIVEN WITH THE SEED: the statements are not yours to turn. If you find one false, say at which input.
  Laid BY PROGRAM, IN A SANDBOX (cutbox-rows.mjs): the forced cells as the released guide's own fill.sh prints them over the translation f375ccc24b9c2742… (all of the seat's roots in one cut). By AI agents, Wed Nov 11 2026. No macro, syntax, notation, axiom, sorry.
-/
import Derived.Test.YtdmckjojeddaaaaChecked
import GoSem.Claim
import GoSem.ClaimJoined
import GoSem.ClaimMapViews
import Derived.JoinedTies
import Derived.KernelRfl
namespace Go.Proofs.Ytdmckjojeddaaaa
/- THE CELL 'sum', in the pinned program and in every row, IS THE sha256 OF THE DUMP (.gsa) THAT YtdmckjojeddaaaaProg.lean LOADS. Nothing in Lean hashes anything: it is a label: what it is worth is what the hold of that sum in a sandbox is worth. -/
noncomputable def Try.pinned : Pinned := { name := "ytdmckjojeddaaaa", sum := "f375ccc24b9c2742d312b5135f8e3467bd49f7f1fad5037ff85111151372e44d", checked := Try.checked }
namespace Rows
def none {H : Type} : Left H := { results := [], args := [] }

/-- 'amnestylaw02.OrderChecks': WHATEVER THE INPUT: true; the input reads as it did. -/
def orderChecksSpec : ChangeSpec := { name := "orderChecks", fn := fun _ => fun
  | [d] => { results := [.lit (.bool true)], args := [d] }
  | _ => none }
def orderChecksRow : OpenClaim := { program := "ytdmckjojeddaaaa", sum := "f375ccc24b9c2742d312b5135f8e3467bd49f7f1fad5037ff85111151372e44d", func := "amnesty/amnestylaw02.OrderChecks", spec := "orderChecks", inPlace := ["internal/bytealg.Compare"], apart := false }
def OrderChecksSaid : Prop := orderChecksRow.holds Try.pinned (OpenSpec.ofChange orderChecksSpec)

/-- ITS FALSE NEIGHBOUR: 'it returns false'. Refute it at one input. -/
def orderChecksWrong : ChangeSpec := { name := "orderChecks", fn := fun _ => fun
  | [d] => { results := [.lit (.bool false)], args := [d] }
  | _ => none }
def OrderChecksWrongFalsely : Prop := orderChecksRow.holds Try.pinned (OpenSpec.ofChange orderChecksWrong)

/-- 'amnestylaw02.OrderHeights': WHATEVER THE INPUT: true; the input reads as it did. -/
def orderHeightsSpec : ChangeSpec := { name := "orderHeights", fn := fun _ => fun
  | [d1, d2] => { results := [.lit (.bool true)], args := [d1, d2] }
  | _ => none }
def orderHeightsRow : OpenClaim := { program := "ytdmckjojeddaaaa", sum := "f375ccc24b9c2742d312b5135f8e3467bd49f7f1fad5037ff85111151372e44d", func := "amnesty/amnestylaw02.OrderHeights", spec := "orderHeights", inPlace := ["internal/bytealg.Compare"], unfollowed := true, recurses := true, apart := false }
def OrderHeightsSaid : Prop := orderHeightsRow.holds Try.pinned (OpenSpec.ofChange orderHeightsSpec)

/-- ITS FALSE NEIGHBOUR: 'it returns false'. Refute it at one input. -/
def orderHeightsWrong : ChangeSpec := { name := "orderHeights", fn := fun _ => fun
  | [d1, d2] => { results := [.lit (.bool false)], args := [d1, d2] }
  | _ => none }
def OrderHeightsWrongFalsely : Prop := orderHeightsRow.holds Try.pinned (OpenSpec.ofChange orderHeightsWrong)

/-- 'amnestylaw02.OrderProves': WHATEVER THE INPUT: true; the input reads as it did. -/
def orderProvesSpec : ChangeSpec := { name := "orderProves", fn := fun _ => fun
  | [d1, d2, d3] => { results := [.lit (.bool true)], args := [d1, d2, d3] }
  | _ => none }
def orderProvesRow : OpenClaim := { program := "ytdmckjojeddaaaa", sum := "f375ccc24b9c2742d312b5135f8e3467bd49f7f1fad5037ff85111151372e44d", func := "amnesty/amnestylaw02.OrderProves", spec := "orderProves", inPlace := ["internal/bytealg.Compare"], recurses := true, apart := false }
def OrderProvesSaid : Prop := orderProvesRow.holds Try.pinned (OpenSpec.ofChange orderProvesSpec)

/-- ITS FALSE NEIGHBOUR: 'it returns false'. Refute it at one input. -/
def orderProvesWrong : ChangeSpec := { name := "orderProves", fn := fun _ => fun
  | [d1, d2, d3] => { results := [.lit (.bool false)], args := [d1, d2, d3] }
  | _ => none }
def OrderProvesWrongFalsely : Prop := orderProvesRow.holds Try.pinned (OpenSpec.ofChange orderProvesWrong)

/-- 'amnestylaw02.OrderTrue': WHATEVER THE INPUT: true; the input reads as it did. -/
def orderTrueSpec : ChangeSpec := { name := "orderTrue", fn := fun _ => fun
  | [d] => { results := [.lit (.bool true)], args := [d] }
  | _ => none }
def orderTrueRow : OpenClaim := { program := "ytdmckjojeddaaaa", sum := "f375ccc24b9c2742d312b5135f8e3467bd49f7f1fad5037ff85111151372e44d", func := "amnesty/amnestylaw02.OrderTrue", spec := "orderTrue", inPlace := ["internal/bytealg.Compare"], recurses := true, apart := false }
def OrderTrueSaid : Prop := orderTrueRow.holds Try.pinned (OpenSpec.ofChange orderTrueSpec)

/-- ITS FALSE NEIGHBOUR: 'it returns false'. Refute it at one input. -/
def orderTrueWrong : ChangeSpec := { name := "orderTrue", fn := fun _ => fun
  | [d] => { results := [.lit (.bool false)], args := [d] }
  | _ => none }
def OrderTrueWrongFalsely : Prop := orderTrueRow.holds Try.pinned (OpenSpec.ofChange orderTrueWrong)

/-- 'amnestylaw02.OrderLoads': WHATEVER THE INPUT: true; the input reads as it did. -/
def orderLoadsSpec : ChangeSpec := { name := "orderLoads", fn := fun _ => fun
  | [d1, d2] => { results := [.lit (.bool true)], args := [d1, d2] }
  | _ => none }
def orderLoadsRow : OpenClaim := { program := "ytdmckjojeddaaaa", sum := "f375ccc24b9c2742d312b5135f8e3467bd49f7f1fad5037ff85111151372e44d", func := "amnesty/amnestylaw02.OrderLoads", spec := "orderLoads", inPlace := ["internal/bytealg.Compare", "internal/bytealg.MakeNoZero"], unfollowed := true, recurses := true, apart := false }
def OrderLoadsSaid : Prop := orderLoadsRow.holds Try.pinned (OpenSpec.ofChange orderLoadsSpec)

/-- ITS FALSE NEIGHBOUR: 'it returns false'. Refute it at one input. -/
def orderLoadsWrong : ChangeSpec := { name := "orderLoads", fn := fun _ => fun
  | [d1, d2] => { results := [.lit (.bool false)], args := [d1, d2] }
  | _ => none }
def OrderLoadsWrongFalsely : Prop := orderLoadsRow.holds Try.pinned (OpenSpec.ofChange orderLoadsWrong)

/-- 'amnestylaw02.OrderSpans': WHATEVER THE INPUT: true; the input reads as it did. -/
def orderSpansSpec : ChangeSpec := { name := "orderSpans", fn := fun _ => fun
  | [d] => { results := [.lit (.bool true)], args := [d] }
  | _ => none }
def orderSpansRow : OpenClaim := { program := "ytdmckjojeddaaaa", sum := "f375ccc24b9c2742d312b5135f8e3467bd49f7f1fad5037ff85111151372e44d", func := "amnesty/amnestylaw02.OrderSpans", spec := "orderSpans", inPlace := ["internal/bytealg.Compare", "internal/bytealg.MakeNoZero"], unfollowed := true, recurses := true, apart := false }
def OrderSpansSaid : Prop := orderSpansRow.holds Try.pinned (OpenSpec.ofChange orderSpansSpec)

/-- ITS FALSE NEIGHBOUR: 'it returns false'. Refute it at one input. -/
def orderSpansWrong : ChangeSpec := { name := "orderSpans", fn := fun _ => fun
  | [d] => { results := [.lit (.bool false)], args := [d] }
  | _ => none }
def OrderSpansWrongFalsely : Prop := orderSpansRow.holds Try.pinned (OpenSpec.ofChange orderSpansWrong)

/-- 'amnestylaw02.OrderYields': WHATEVER THE INPUT: true; the input reads as it did. -/
def orderYieldsSpec : ChangeSpec := { name := "orderYields", fn := fun _ => fun
  | [d] => { results := [.lit (.bool true)], args := [d] }
  | _ => none }
def orderYieldsRow : OpenClaim := { program := "ytdmckjojeddaaaa", sum := "f375ccc24b9c2742d312b5135f8e3467bd49f7f1fad5037ff85111151372e44d", func := "amnesty/amnestylaw02.OrderYields", spec := "orderYields", inPlace := ["internal/bytealg.Compare", "internal/bytealg.MakeNoZero"], unfollowed := true, recurses := true, apart := false }
def OrderYieldsSaid : Prop := orderYieldsRow.holds Try.pinned (OpenSpec.ofChange orderYieldsSpec)

/-- ITS FALSE NEIGHBOUR: 'it returns false'. Refute it at one input. -/
def orderYieldsWrong : ChangeSpec := { name := "orderYields", fn := fun _ => fun
  | [d] => { results := [.lit (.bool false)], args := [d] }
  | _ => none }
def OrderYieldsWrongFalsely : Prop := orderYieldsRow.holds Try.pinned (OpenSpec.ofChange orderYieldsWrong)

/-- 'amnestylaw02.OrderHalves': WHATEVER THE INPUT: true; the input reads as it did. -/
def orderHalvesSpec : ChangeSpec := { name := "orderHalves", fn := fun _ => fun
  | [d1, d2, d3] => { results := [.lit (.bool true)], args := [d1, d2, d3] }
  | _ => none }
def orderHalvesRow : OpenClaim := { program := "ytdmckjojeddaaaa", sum := "f375ccc24b9c2742d312b5135f8e3467bd49f7f1fad5037ff85111151372e44d", func := "amnesty/amnestylaw02.OrderHalves", spec := "orderHalves", inPlace := ["internal/bytealg.Compare", "internal/bytealg.MakeNoZero"], unfollowed := true, recurses := true, apart := false }
def OrderHalvesSaid : Prop := orderHalvesRow.holds Try.pinned (OpenSpec.ofChange orderHalvesSpec)

/-- ITS FALSE NEIGHBOUR: 'it returns false'. Refute it at one input. -/
def orderHalvesWrong : ChangeSpec := { name := "orderHalves", fn := fun _ => fun
  | [d1, d2, d3] => { results := [.lit (.bool false)], args := [d1, d2, d3] }
  | _ => none }
def OrderHalvesWrongFalsely : Prop := orderHalvesRow.holds Try.pinned (OpenSpec.ofChange orderHalvesWrong)

/-- 'amnestylaw02.OrderShape': WHATEVER THE INPUT: true; the input reads as it did. -/
def orderShapeSpec : ChangeSpec := { name := "orderShape", fn := fun _ => fun
  | [d1, d2, d3] => { results := [.lit (.bool true)], args := [d1, d2, d3] }
  | _ => none }
def orderShapeRow : OpenClaim := { program := "ytdmckjojeddaaaa", sum := "f375ccc24b9c2742d312b5135f8e3467bd49f7f1fad5037ff85111151372e44d", func := "amnesty/amnestylaw02.OrderShape", spec := "orderShape", inPlace := ["internal/bytealg.Compare", "internal/bytealg.MakeNoZero"], unfollowed := true, recurses := true, apart := false }
def OrderShapeSaid : Prop := orderShapeRow.holds Try.pinned (OpenSpec.ofChange orderShapeSpec)

/-- ITS FALSE NEIGHBOUR: 'it returns false'. Refute it at one input. -/
def orderShapeWrong : ChangeSpec := { name := "orderShape", fn := fun _ => fun
  | [d1, d2, d3] => { results := [.lit (.bool false)], args := [d1, d2, d3] }
  | _ => none }
def OrderShapeWrongFalsely : Prop := orderShapeRow.holds Try.pinned (OpenSpec.ofChange orderShapeWrong)

/-- 'amnestylaw02.OrderOwn': WHATEVER THE INPUT: true; the input reads as it did. -/
def orderOwnSpec : ChangeSpec := { name := "orderOwn", fn := fun _ => fun
  | [d1, d2, d3] => { results := [.lit (.bool true)], args := [d1, d2, d3] }
  | _ => none }
def orderOwnRow : OpenClaim := { program := "ytdmckjojeddaaaa", sum := "f375ccc24b9c2742d312b5135f8e3467bd49f7f1fad5037ff85111151372e44d", func := "amnesty/amnestylaw02.OrderOwn", spec := "orderOwn", inPlace := ["internal/bytealg.Compare", "internal/bytealg.MakeNoZero"], unfollowed := true, recurses := true, apart := false }
def OrderOwnSaid : Prop := orderOwnRow.holds Try.pinned (OpenSpec.ofChange orderOwnSpec)

/-- ITS FALSE NEIGHBOUR: 'it returns false'. Refute it at one input. -/
def orderOwnWrong : ChangeSpec := { name := "orderOwn", fn := fun _ => fun
  | [d1, d2, d3] => { results := [.lit (.bool false)], args := [d1, d2, d3] }
  | _ => none }
def OrderOwnWrongFalsely : Prop := orderOwnRow.holds Try.pinned (OpenSpec.ofChange orderOwnWrong)

/-- 'amnestylaw02.OrderNone': WHATEVER THE INPUT: true; the input reads as it did. -/
def orderNoneSpec : ChangeSpec := { name := "orderNone", fn := fun _ => fun
  | [d] => { results := [.lit (.bool true)], args := [d] }
  | _ => none }
def orderNoneRow : OpenClaim := { program := "ytdmckjojeddaaaa", sum := "f375ccc24b9c2742d312b5135f8e3467bd49f7f1fad5037ff85111151372e44d", func := "amnesty/amnestylaw02.OrderNone", spec := "orderNone", inPlace := ["internal/bytealg.Compare", "internal/bytealg.MakeNoZero"], unfollowed := true, recurses := true, apart := false }
def OrderNoneSaid : Prop := orderNoneRow.holds Try.pinned (OpenSpec.ofChange orderNoneSpec)

/-- ITS FALSE NEIGHBOUR: 'it returns false'. Refute it at one input. -/
def orderNoneWrong : ChangeSpec := { name := "orderNone", fn := fun _ => fun
  | [d] => { results := [.lit (.bool false)], args := [d] }
  | _ => none }
def OrderNoneWrongFalsely : Prop := orderNoneRow.holds Try.pinned (OpenSpec.ofChange orderNoneWrong)

/-- 'amnestylaw02.OrderPlays': WHATEVER THE INPUT: true; the input reads as it did. -/
def orderPlaysSpec : ChangeSpec := { name := "orderPlays", fn := fun _ => fun
  | [d1, d2] => { results := [.lit (.bool true)], args := [d1, d2] }
  | _ => none }
def orderPlaysRow : OpenClaim := { program := "ytdmckjojeddaaaa", sum := "f375ccc24b9c2742d312b5135f8e3467bd49f7f1fad5037ff85111151372e44d", func := "amnesty/amnestylaw02.OrderPlays", spec := "orderPlays", inPlace := ["internal/bytealg.Compare", "internal/bytealg.MakeNoZero"], unfollowed := true, recurses := true, apart := false }
def OrderPlaysSaid : Prop := orderPlaysRow.holds Try.pinned (OpenSpec.ofChange orderPlaysSpec)

/-- ITS FALSE NEIGHBOUR: 'it returns false'. Refute it at one input. -/
def orderPlaysWrong : ChangeSpec := { name := "orderPlays", fn := fun _ => fun
  | [d1, d2] => { results := [.lit (.bool false)], args := [d1, d2] }
  | _ => none }
def OrderPlaysWrongFalsely : Prop := orderPlaysRow.holds Try.pinned (OpenSpec.ofChange orderPlaysWrong)

/- THE SECOND FORM. 'bulk': how many values and letters a reading holds, each counted each time it is reached (what is shared counts as often as it is met; a slice's spare places count too). A statement '..UptoSaid' is the law's where the arguments, and the package variables that the reading takes, are together of bulk at most 1048576: NARROWER than '..Said'. Prove '..Said' where nothing that the law and all that it calls make is longer than what came in: it says more and counts as full. Else prove '..UptoSaid'. A law counts once. -/
mutual
def uptoBulk {H : Type} : DataW H → Nat
  | .lit (.string bytes) => bytes.length + 1
  | .lit _ => 1
  | .nil => 1
  | .ptr d => uptoBulk d + 1
  | .slice elems spare => uptoBulkAll elems + uptoBulkAll spare + 1
  | .agg parts => uptoBulkAll parts + 1
  | .iface _ d => uptoBulk d + 1
  | .map entries => uptoBulkEntries entries + 1
  | .held _ => 1
def uptoBulkAll {H : Type} : List (DataW H) → Nat
  | [] => 0
  | d :: r => uptoBulk d + uptoBulkAll r
def uptoBulkEntries {H : Type} : List (Lit × DataW H) → Nat
  | [] => 0
  | x :: r => uptoBulkEntry x + uptoBulkEntries r
def uptoBulkEntry {H : Type} : Lit × DataW H → Nat
  | (.string bytes, d) => bytes.length + uptoBulk d + 1
  | (_, d) => uptoBulk d + 1
 end
def uptoSmall : (H : Type) → List (DataW H) → Bool := fun _ ds => decide (uptoBulkAll ds ≤ 1048576)
def OpenSpec.upto (s : _root_.Go.ChangeSpec) : _root_.Go.OpenSpec := { _root_.Go.OpenSpec.ofChange s with cond := some uptoSmall }

/-- 'amnestylaw02.OrderChecks', WHERE WHAT IT READS IS OF BULK AT MOST 1048576: true; the input reads as it did. -/
def orderChecksUptoRow : OpenClaim := { program := "ytdmckjojeddaaaa", sum := "f375ccc24b9c2742d312b5135f8e3467bd49f7f1fad5037ff85111151372e44d", func := "amnesty/amnestylaw02.OrderChecks", spec := "orderChecks", inPlace := ["internal/bytealg.Compare"], apart := false, narrowed := true }
def OrderChecksUptoSaid : Prop := orderChecksUptoRow.holds Try.pinned (OpenSpec.upto orderChecksSpec)

/-- 'amnestylaw02.OrderHeights', WHERE WHAT IT READS IS OF BULK AT MOST 1048576: true; the input reads as it did. -/
def orderHeightsUptoRow : OpenClaim := { program := "ytdmckjojeddaaaa", sum := "f375ccc24b9c2742d312b5135f8e3467bd49f7f1fad5037ff85111151372e44d", func := "amnesty/amnestylaw02.OrderHeights", spec := "orderHeights", inPlace := ["internal/bytealg.Compare"], unfollowed := true, recurses := true, apart := false, narrowed := true }
def OrderHeightsUptoSaid : Prop := orderHeightsUptoRow.holds Try.pinned (OpenSpec.upto orderHeightsSpec)

/-- 'amnestylaw02.OrderProves', WHERE WHAT IT READS IS OF BULK AT MOST 1048576: true; the input reads as it did. -/
def orderProvesUptoRow : OpenClaim := { program := "ytdmckjojeddaaaa", sum := "f375ccc24b9c2742d312b5135f8e3467bd49f7f1fad5037ff85111151372e44d", func := "amnesty/amnestylaw02.OrderProves", spec := "orderProves", inPlace := ["internal/bytealg.Compare"], recurses := true, apart := false, narrowed := true }
def OrderProvesUptoSaid : Prop := orderProvesUptoRow.holds Try.pinned (OpenSpec.upto orderProvesSpec)

/-- 'amnestylaw02.OrderTrue', WHERE WHAT IT READS IS OF BULK AT MOST 1048576: true; the input reads as it did. -/
def orderTrueUptoRow : OpenClaim := { program := "ytdmckjojeddaaaa", sum := "f375ccc24b9c2742d312b5135f8e3467bd49f7f1fad5037ff85111151372e44d", func := "amnesty/amnestylaw02.OrderTrue", spec := "orderTrue", inPlace := ["internal/bytealg.Compare"], recurses := true, apart := false, narrowed := true }
def OrderTrueUptoSaid : Prop := orderTrueUptoRow.holds Try.pinned (OpenSpec.upto orderTrueSpec)

/-- 'amnestylaw02.OrderLoads', WHERE WHAT IT READS IS OF BULK AT MOST 1048576: true; the input reads as it did. -/
def orderLoadsUptoRow : OpenClaim := { program := "ytdmckjojeddaaaa", sum := "f375ccc24b9c2742d312b5135f8e3467bd49f7f1fad5037ff85111151372e44d", func := "amnesty/amnestylaw02.OrderLoads", spec := "orderLoads", inPlace := ["internal/bytealg.Compare", "internal/bytealg.MakeNoZero"], unfollowed := true, recurses := true, apart := false, narrowed := true }
def OrderLoadsUptoSaid : Prop := orderLoadsUptoRow.holds Try.pinned (OpenSpec.upto orderLoadsSpec)

/-- 'amnestylaw02.OrderSpans', WHERE WHAT IT READS IS OF BULK AT MOST 1048576: true; the input reads as it did. -/
def orderSpansUptoRow : OpenClaim := { program := "ytdmckjojeddaaaa", sum := "f375ccc24b9c2742d312b5135f8e3467bd49f7f1fad5037ff85111151372e44d", func := "amnesty/amnestylaw02.OrderSpans", spec := "orderSpans", inPlace := ["internal/bytealg.Compare", "internal/bytealg.MakeNoZero"], unfollowed := true, recurses := true, apart := false, narrowed := true }
def OrderSpansUptoSaid : Prop := orderSpansUptoRow.holds Try.pinned (OpenSpec.upto orderSpansSpec)

/-- 'amnestylaw02.OrderYields', WHERE WHAT IT READS IS OF BULK AT MOST 1048576: true; the input reads as it did. -/
def orderYieldsUptoRow : OpenClaim := { program := "ytdmckjojeddaaaa", sum := "f375ccc24b9c2742d312b5135f8e3467bd49f7f1fad5037ff85111151372e44d", func := "amnesty/amnestylaw02.OrderYields", spec := "orderYields", inPlace := ["internal/bytealg.Compare", "internal/bytealg.MakeNoZero"], unfollowed := true, recurses := true, apart := false, narrowed := true }
def OrderYieldsUptoSaid : Prop := orderYieldsUptoRow.holds Try.pinned (OpenSpec.upto orderYieldsSpec)

/-- 'amnestylaw02.OrderHalves', WHERE WHAT IT READS IS OF BULK AT MOST 1048576: true; the input reads as it did. -/
def orderHalvesUptoRow : OpenClaim := { program := "ytdmckjojeddaaaa", sum := "f375ccc24b9c2742d312b5135f8e3467bd49f7f1fad5037ff85111151372e44d", func := "amnesty/amnestylaw02.OrderHalves", spec := "orderHalves", inPlace := ["internal/bytealg.Compare", "internal/bytealg.MakeNoZero"], unfollowed := true, recurses := true, apart := false, narrowed := true }
def OrderHalvesUptoSaid : Prop := orderHalvesUptoRow.holds Try.pinned (OpenSpec.upto orderHalvesSpec)

/-- 'amnestylaw02.OrderShape', WHERE WHAT IT READS IS OF BULK AT MOST 1048576: true; the input reads as it did. -/
def orderShapeUptoRow : OpenClaim := { program := "ytdmckjojeddaaaa", sum := "f375ccc24b9c2742d312b5135f8e3467bd49f7f1fad5037ff85111151372e44d", func := "amnesty/amnestylaw02.OrderShape", spec := "orderShape", inPlace := ["internal/bytealg.Compare", "internal/bytealg.MakeNoZero"], unfollowed := true, recurses := true, apart := false, narrowed := true }
def OrderShapeUptoSaid : Prop := orderShapeUptoRow.holds Try.pinned (OpenSpec.upto orderShapeSpec)

/-- 'amnestylaw02.OrderOwn', WHERE WHAT IT READS IS OF BULK AT MOST 1048576: true; the input reads as it did. -/
def orderOwnUptoRow : OpenClaim := { program := "ytdmckjojeddaaaa", sum := "f375ccc24b9c2742d312b5135f8e3467bd49f7f1fad5037ff85111151372e44d", func := "amnesty/amnestylaw02.OrderOwn", spec := "orderOwn", inPlace := ["internal/bytealg.Compare", "internal/bytealg.MakeNoZero"], unfollowed := true, recurses := true, apart := false, narrowed := true }
def OrderOwnUptoSaid : Prop := orderOwnUptoRow.holds Try.pinned (OpenSpec.upto orderOwnSpec)

/-- 'amnestylaw02.OrderNone', WHERE WHAT IT READS IS OF BULK AT MOST 1048576: true; the input reads as it did. -/
def orderNoneUptoRow : OpenClaim := { program := "ytdmckjojeddaaaa", sum := "f375ccc24b9c2742d312b5135f8e3467bd49f7f1fad5037ff85111151372e44d", func := "amnesty/amnestylaw02.OrderNone", spec := "orderNone", inPlace := ["internal/bytealg.Compare", "internal/bytealg.MakeNoZero"], unfollowed := true, recurses := true, apart := false, narrowed := true }
def OrderNoneUptoSaid : Prop := orderNoneUptoRow.holds Try.pinned (OpenSpec.upto orderNoneSpec)

/-- 'amnestylaw02.OrderPlays', WHERE WHAT IT READS IS OF BULK AT MOST 1048576: true; the input reads as it did. -/
def orderPlaysUptoRow : OpenClaim := { program := "ytdmckjojeddaaaa", sum := "f375ccc24b9c2742d312b5135f8e3467bd49f7f1fad5037ff85111151372e44d", func := "amnesty/amnestylaw02.OrderPlays", spec := "orderPlays", inPlace := ["internal/bytealg.Compare", "internal/bytealg.MakeNoZero"], unfollowed := true, recurses := true, apart := false, narrowed := true }
def OrderPlaysUptoSaid : Prop := orderPlaysUptoRow.holds Try.pinned (OpenSpec.upto orderPlaysSpec)

end Rows
end Go.Proofs.Ytdmckjojeddaaaa
