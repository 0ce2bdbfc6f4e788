/-
  No cell of these rows narrows 'for every input' (looked for: loops, veiled, ifaces, maps, wideKeys, modest, calm, conditions, laid).
  DERIVED. THE GIVEN ROWS OF THIS SEAT. 7 by the template 'for every input the law returns true; each argument reads behind the call as it read before'; 0 by the template 'total and deterministic' (their statements: YtgabidgpngiecaaTotals.lean).
  GIVEN WITH THE SEED: the statements are not yours to turn. If you find one false, say at which input.
  Laid BY PROGRAM, IN A SANDBOX (cutbox-rows.mjs): the forced cells as the released guide's own fill.sh prints them over the translation 9c1a02789030e0f7… (all of the seat's roots in one cut). By AI agents, Wed Nov 11 2026. No macro, syntax, notation, axiom, sorry.
-/
import Derived.Test.YtgabidgpngiecaaChecked
import GoSem.Claim
import GoSem.ClaimJoined
import GoSem.ClaimMapViews
import Derived.JoinedTies
import Derived.KernelRfl
namespace Go.Proofs.Ytgabidgpngiecaa
/- THE CELL 'sum', in the pinned program and in every row, IS THE sha256 OF THE DUMP (.gsa) THAT YtgabidgpngiecaaProg.lean LOADS. Nothing in Lean hashes anything: it is a label: what it is worth is what the hold of that sum in a sandbox is worth. -/
noncomputable def Try.pinned : Pinned := { name := "ytgabidgpngiecaa", sum := "9c1a02789030e0f77a6261e53fd55025b93a26525e7b673b9cedc2b3b593db57", checked := Try.checked }
namespace Rows
def none {H : Type} : Left H := { results := [], args := [] }

/-- 'amnestylaw05.LearnSquares': WHATEVER THE INPUT: true; the input reads as it did. -/
def learnSquaresSpec : ChangeSpec := { name := "learnSquares", fn := fun _ => fun
  | [d1, d2, d3] => { results := [.lit (.bool true)], args := [d1, d2, d3] }
  | _ => none }
def learnSquaresRow : OpenClaim := { program := "ytgabidgpngiecaa", sum := "9c1a02789030e0f77a6261e53fd55025b93a26525e7b673b9cedc2b3b593db57", func := "amnesty/amnestylaw05.LearnSquares", spec := "learnSquares", unfollowed := true, recurses := true, plainKeys := false, apart := false }
def LearnSquaresSaid : Prop := learnSquaresRow.holds Try.pinned (OpenSpec.ofChange learnSquaresSpec)

/-- ITS FALSE NEIGHBOUR: 'it returns false'. Refute it at one input. -/
def learnSquaresWrong : ChangeSpec := { name := "learnSquares", fn := fun _ => fun
  | [d1, d2, d3] => { results := [.lit (.bool false)], args := [d1, d2, d3] }
  | _ => none }
def LearnSquaresWrongFalsely : Prop := learnSquaresRow.holds Try.pinned (OpenSpec.ofChange learnSquaresWrong)

/-- 'amnestylaw05.LearnFull': WHATEVER THE INPUT: true; the input reads as it did. -/
def learnFullSpec : ChangeSpec := { name := "learnFull", fn := fun _ => fun
  | [d1, d2, d3] => { results := [.lit (.bool true)], args := [d1, d2, d3] }
  | _ => none }
def learnFullRow : OpenClaim := { program := "ytgabidgpngiecaa", sum := "9c1a02789030e0f77a6261e53fd55025b93a26525e7b673b9cedc2b3b593db57", func := "amnesty/amnestylaw05.LearnFull", spec := "learnFull", unfollowed := true, recurses := true, plainKeys := false, apart := false }
def LearnFullSaid : Prop := learnFullRow.holds Try.pinned (OpenSpec.ofChange learnFullSpec)

/-- ITS FALSE NEIGHBOUR: 'it returns false'. Refute it at one input. -/
def learnFullWrong : ChangeSpec := { name := "learnFull", fn := fun _ => fun
  | [d1, d2, d3] => { results := [.lit (.bool false)], args := [d1, d2, d3] }
  | _ => none }
def LearnFullWrongFalsely : Prop := learnFullRow.holds Try.pinned (OpenSpec.ofChange learnFullWrong)

/-- 'amnestylaw05.LearnVotes': WHATEVER THE INPUT: true; the input reads as it did. -/
def learnVotesSpec : ChangeSpec := { name := "learnVotes", fn := fun _ => fun
  | [d1, d2, d3] => { results := [.lit (.bool true)], args := [d1, d2, d3] }
  | _ => none }
def learnVotesRow : OpenClaim := { program := "ytgabidgpngiecaa", sum := "9c1a02789030e0f77a6261e53fd55025b93a26525e7b673b9cedc2b3b593db57", func := "amnesty/amnestylaw05.LearnVotes", spec := "learnVotes", unfollowed := true, recurses := true, plainKeys := false, apart := false }
def LearnVotesSaid : Prop := learnVotesRow.holds Try.pinned (OpenSpec.ofChange learnVotesSpec)

/-- ITS FALSE NEIGHBOUR: 'it returns false'. Refute it at one input. -/
def learnVotesWrong : ChangeSpec := { name := "learnVotes", fn := fun _ => fun
  | [d1, d2, d3] => { results := [.lit (.bool false)], args := [d1, d2, d3] }
  | _ => none }
def LearnVotesWrongFalsely : Prop := learnVotesRow.holds Try.pinned (OpenSpec.ofChange learnVotesWrong)

/-- 'amnestylaw05.LearnTreeStands': WHATEVER THE INPUT: true; the input reads as it did. -/
def learnTreeStandsSpec : ChangeSpec := { name := "learnTreeStands", fn := fun _ => fun
  | [d1, d2, d3] => { results := [.lit (.bool true)], args := [d1, d2, d3] }
  | _ => none }
def learnTreeStandsRow : OpenClaim := { program := "ytgabidgpngiecaa", sum := "9c1a02789030e0f77a6261e53fd55025b93a26525e7b673b9cedc2b3b593db57", func := "amnesty/amnestylaw05.LearnTreeStands", spec := "learnTreeStands", unfollowed := true, recurses := true, plainKeys := false, apart := false }
def LearnTreeStandsSaid : Prop := learnTreeStandsRow.holds Try.pinned (OpenSpec.ofChange learnTreeStandsSpec)

/-- ITS FALSE NEIGHBOUR: 'it returns false'. Refute it at one input. -/
def learnTreeStandsWrong : ChangeSpec := { name := "learnTreeStands", fn := fun _ => fun
  | [d1, d2, d3] => { results := [.lit (.bool false)], args := [d1, d2, d3] }
  | _ => none }
def LearnTreeStandsWrongFalsely : Prop := learnTreeStandsRow.holds Try.pinned (OpenSpec.ofChange learnTreeStandsWrong)

/-- 'amnestylaw05.LearnOrders': WHATEVER THE INPUT: true; the input reads as it did. -/
def learnOrdersSpec : ChangeSpec := { name := "learnOrders", fn := fun _ => fun
  | [d1, d2, d3] => { results := [.lit (.bool true)], args := [d1, d2, d3] }
  | _ => none }
def learnOrdersRow : OpenClaim := { program := "ytgabidgpngiecaa", sum := "9c1a02789030e0f77a6261e53fd55025b93a26525e7b673b9cedc2b3b593db57", func := "amnesty/amnestylaw05.LearnOrders", spec := "learnOrders", unfollowed := true, recurses := true, plainKeys := false, apart := false }
def LearnOrdersSaid : Prop := learnOrdersRow.holds Try.pinned (OpenSpec.ofChange learnOrdersSpec)

/-- ITS FALSE NEIGHBOUR: 'it returns false'. Refute it at one input. -/
def learnOrdersWrong : ChangeSpec := { name := "learnOrders", fn := fun _ => fun
  | [d1, d2, d3] => { results := [.lit (.bool false)], args := [d1, d2, d3] }
  | _ => none }
def LearnOrdersWrongFalsely : Prop := learnOrdersRow.holds Try.pinned (OpenSpec.ofChange learnOrdersWrong)

/-- 'amnestylaw05.LearnShows': WHATEVER THE INPUT: true; the input reads as it did. -/
def learnShowsSpec : ChangeSpec := { name := "learnShows", fn := fun _ => fun
  | [d1, d2] => { results := [.lit (.bool true)], args := [d1, d2] }
  | _ => none }
def learnShowsRow : OpenClaim := { program := "ytgabidgpngiecaa", sum := "9c1a02789030e0f77a6261e53fd55025b93a26525e7b673b9cedc2b3b593db57", func := "amnesty/amnestylaw05.LearnShows", spec := "learnShows", unfollowed := true, recurses := true, plainKeys := false, apart := false }
def LearnShowsSaid : Prop := learnShowsRow.holds Try.pinned (OpenSpec.ofChange learnShowsSpec)

/-- ITS FALSE NEIGHBOUR: 'it returns false'. Refute it at one input. -/
def learnShowsWrong : ChangeSpec := { name := "learnShows", fn := fun _ => fun
  | [d1, d2] => { results := [.lit (.bool false)], args := [d1, d2] }
  | _ => none }
def LearnShowsWrongFalsely : Prop := learnShowsRow.holds Try.pinned (OpenSpec.ofChange learnShowsWrong)

/-- 'amnestylaw05.LearnForgets': WHATEVER THE INPUT: true; the input reads as it did. -/
def learnForgetsSpec : ChangeSpec := { name := "learnForgets", fn := fun _ => fun
  | [d1, d2, d3] => { results := [.lit (.bool true)], args := [d1, d2, d3] }
  | _ => none }
def learnForgetsRow : OpenClaim := { program := "ytgabidgpngiecaa", sum := "9c1a02789030e0f77a6261e53fd55025b93a26525e7b673b9cedc2b3b593db57", func := "amnesty/amnestylaw05.LearnForgets", spec := "learnForgets", unfollowed := true, recurses := true, plainKeys := false, apart := false }
def LearnForgetsSaid : Prop := learnForgetsRow.holds Try.pinned (OpenSpec.ofChange learnForgetsSpec)

/-- ITS FALSE NEIGHBOUR: 'it returns false'. Refute it at one input. -/
def learnForgetsWrong : ChangeSpec := { name := "learnForgets", fn := fun _ => fun
  | [d1, d2, d3] => { results := [.lit (.bool false)], args := [d1, d2, d3] }
  | _ => none }
def LearnForgetsWrongFalsely : Prop := learnForgetsRow.holds Try.pinned (OpenSpec.ofChange learnForgetsWrong)

/- THE SECOND FORM. 'bulk': how many values and letters a reading holds, each counted each time it is reached (what is shared counts as often as it is met; a slice's spare places count too). A statement '..UptoSaid' is the law's where the arguments, and the package variables that the reading takes, are together of bulk at most 1048576: NARROWER than '..Said'. Prove '..Said' where nothing that the law and all that it calls make is longer than what came in: it says more and counts as full. Else prove '..UptoSaid'. A law counts once. -/
mutual
def uptoBulk {H : Type} : DataW H → Nat
  | .lit (.string bytes) => bytes.length + 1
  | .lit _ => 1
  | .nil => 1
  | .ptr d => uptoBulk d + 1
  | .slice elems spare => uptoBulkAll elems + uptoBulkAll spare + 1
  | .agg parts => uptoBulkAll parts + 1
  | .iface _ d => uptoBulk d + 1
  | .map entries => uptoBulkEntries entries + 1
  | .held _ => 1
def uptoBulkAll {H : Type} : List (DataW H) → Nat
  | [] => 0
  | d :: r => uptoBulk d + uptoBulkAll r
def uptoBulkEntries {H : Type} : List (Lit × DataW H) → Nat
  | [] => 0
  | x :: r => uptoBulkEntry x + uptoBulkEntries r
def uptoBulkEntry {H : Type} : Lit × DataW H → Nat
  | (.string bytes, d) => bytes.length + uptoBulk d + 1
  | (_, d) => uptoBulk d + 1
 end
def uptoSmall : (H : Type) → List (DataW H) → Bool := fun _ ds => decide (uptoBulkAll ds ≤ 1048576)
def OpenSpec.upto (s : _root_.Go.ChangeSpec) : _root_.Go.OpenSpec := { _root_.Go.OpenSpec.ofChange s with cond := some uptoSmall }

/-- 'amnestylaw05.LearnSquares', WHERE WHAT IT READS IS OF BULK AT MOST 1048576: true; the input reads as it did. -/
def learnSquaresUptoRow : OpenClaim := { program := "ytgabidgpngiecaa", sum := "9c1a02789030e0f77a6261e53fd55025b93a26525e7b673b9cedc2b3b593db57", func := "amnesty/amnestylaw05.LearnSquares", spec := "learnSquares", unfollowed := true, recurses := true, plainKeys := false, apart := false, narrowed := true }
def LearnSquaresUptoSaid : Prop := learnSquaresUptoRow.holds Try.pinned (OpenSpec.upto learnSquaresSpec)

/-- 'amnestylaw05.LearnFull', WHERE WHAT IT READS IS OF BULK AT MOST 1048576: true; the input reads as it did. -/
def learnFullUptoRow : OpenClaim := { program := "ytgabidgpngiecaa", sum := "9c1a02789030e0f77a6261e53fd55025b93a26525e7b673b9cedc2b3b593db57", func := "amnesty/amnestylaw05.LearnFull", spec := "learnFull", unfollowed := true, recurses := true, plainKeys := false, apart := false, narrowed := true }
def LearnFullUptoSaid : Prop := learnFullUptoRow.holds Try.pinned (OpenSpec.upto learnFullSpec)

/-- 'amnestylaw05.LearnVotes', WHERE WHAT IT READS IS OF BULK AT MOST 1048576: true; the input reads as it did. -/
def learnVotesUptoRow : OpenClaim := { program := "ytgabidgpngiecaa", sum := "9c1a02789030e0f77a6261e53fd55025b93a26525e7b673b9cedc2b3b593db57", func := "amnesty/amnestylaw05.LearnVotes", spec := "learnVotes", unfollowed := true, recurses := true, plainKeys := false, apart := false, narrowed := true }
def LearnVotesUptoSaid : Prop := learnVotesUptoRow.holds Try.pinned (OpenSpec.upto learnVotesSpec)

/-- 'amnestylaw05.LearnTreeStands', WHERE WHAT IT READS IS OF BULK AT MOST 1048576: true; the input reads as it did. -/
def learnTreeStandsUptoRow : OpenClaim := { program := "ytgabidgpngiecaa", sum := "9c1a02789030e0f77a6261e53fd55025b93a26525e7b673b9cedc2b3b593db57", func := "amnesty/amnestylaw05.LearnTreeStands", spec := "learnTreeStands", unfollowed := true, recurses := true, plainKeys := false, apart := false, narrowed := true }
def LearnTreeStandsUptoSaid : Prop := learnTreeStandsUptoRow.holds Try.pinned (OpenSpec.upto learnTreeStandsSpec)

/-- 'amnestylaw05.LearnOrders', WHERE WHAT IT READS IS OF BULK AT MOST 1048576: true; the input reads as it did. -/
def learnOrdersUptoRow : OpenClaim := { program := "ytgabidgpngiecaa", sum := "9c1a02789030e0f77a6261e53fd55025b93a26525e7b673b9cedc2b3b593db57", func := "amnesty/amnestylaw05.LearnOrders", spec := "learnOrders", unfollowed := true, recurses := true, plainKeys := false, apart := false, narrowed := true }
def LearnOrdersUptoSaid : Prop := learnOrdersUptoRow.holds Try.pinned (OpenSpec.upto learnOrdersSpec)

/-- 'amnestylaw05.LearnShows', WHERE WHAT IT READS IS OF BULK AT MOST 1048576: true; the input reads as it did. -/
def learnShowsUptoRow : OpenClaim := { program := "ytgabidgpngiecaa", sum := "9c1a02789030e0f77a6261e53fd55025b93a26525e7b673b9cedc2b3b593db57", func := "amnesty/amnestylaw05.LearnShows", spec := "learnShows", unfollowed := true, recurses := true, plainKeys := false, apart := false, narrowed := true }
def LearnShowsUptoSaid : Prop := learnShowsUptoRow.holds Try.pinned (OpenSpec.upto learnShowsSpec)

/-- 'amnestylaw05.LearnForgets', WHERE WHAT IT READS IS OF BULK AT MOST 1048576: true; the input reads as it did. -/
def learnForgetsUptoRow : OpenClaim := { program := "ytgabidgpngiecaa", sum := "9c1a02789030e0f77a6261e53fd55025b93a26525e7b673b9cedc2b3b593db57", func := "amnesty/amnestylaw05.LearnForgets", spec := "learnForgets", unfollowed := true, recurses := true, plainKeys := false, apart := false, narrowed := true }
def LearnForgetsUptoSaid : Prop := learnForgetsUptoRow.holds Try.pinned (OpenSpec.upto learnForgetsSpec)

end Rows
end Go.Proofs.Ytgabidgpngiecaa
