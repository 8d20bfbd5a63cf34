/-
  No cell of these rows narrows 'for every input' (looked for: loops, veiled, ifaces, maps, wideKeys, modest, calm, conditions, laid).
  DERIVED. THE GIVEN ROWS OF THIS SEAT. 9 by the template 'for every input the law returns true; each argument reads behind the call as it read before'; 0 by the template 'total and deterministic' (their statements: YtfpmbjobieeidaaTotals.lean).
  GIVEN WITH THE SEED: the statements are not yours to turn. If you find one false, say at which input.
  Laid BY PROGRAM, IN A SANDBOX (cutbox-rows.mjs): the forced cells as the released guide's own fill.sh prints them over the translation 2f3bb93abff049b5… (all of the seat's roots in one cut). By AI agents, Wed Nov 11 2026. No macro, syntax, notation, axiom, sorry.
-/
import Derived.Test.YtfpmbjobieeidaaChecked
import GoSem.Claim
import GoSem.ClaimJoined
import GoSem.ClaimMapViews
import Derived.JoinedTies
import Derived.KernelRfl
namespace Go.Proofs.Ytfpmbjobieeidaa
/- THE CELL 'sum', in the pinned program and in every row, IS THE sha256 OF THE DUMP (.gsa) THAT YtfpmbjobieeidaaProg.lean LOADS. Nothing in Lean hashes anything: it is a label: what it is worth is what the hold of that sum in a sandbox is worth. -/
noncomputable def Try.pinned : Pinned := { name := "ytfpmbjobieeidaa", sum := "2f3bb93abff049b53dcaeff8574acbb1a52475b796603c8e2f45df5b30ed1f0c", checked := Try.checked }
namespace Rows
def none {H : Type} : Left H := { results := [], args := [] }

/-- 'sleuthlaw07.RankFractions': WHATEVER THE INPUT: true; the input reads as it did. -/
def rankFractionsSpec : ChangeSpec := { name := "rankFractions", fn := fun _ => fun
  | [d1, d2, d3, d4] => { results := [.lit (.bool true)], args := [d1, d2, d3, d4] }
  | _ => none }
def rankFractionsRow : OpenClaim := { program := "ytfpmbjobieeidaa", sum := "2f3bb93abff049b53dcaeff8574acbb1a52475b796603c8e2f45df5b30ed1f0c", func := "sleuth/sleuthlaw07.RankFractions", spec := "rankFractions", unfollowed := true, recurses := true, plainKeys := false, apart := false }
def RankFractionsSaid : Prop := rankFractionsRow.holds Try.pinned (OpenSpec.ofChange rankFractionsSpec)

/-- ITS FALSE NEIGHBOUR: 'it returns false'. Refute it at one input. -/
def rankFractionsWrong : ChangeSpec := { name := "rankFractions", fn := fun _ => fun
  | [d1, d2, d3, d4] => { results := [.lit (.bool false)], args := [d1, d2, d3, d4] }
  | _ => none }
def RankFractionsWrongFalsely : Prop := rankFractionsRow.holds Try.pinned (OpenSpec.ofChange rankFractionsWrong)

/-- 'sleuthlaw07.RankOrder': WHATEVER THE INPUT: true; the input reads as it did. -/
def rankOrderSpec : ChangeSpec := { name := "rankOrder", fn := fun _ => fun
  | [d1, d2, d3] => { results := [.lit (.bool true)], args := [d1, d2, d3] }
  | _ => none }
def rankOrderRow : OpenClaim := { program := "ytfpmbjobieeidaa", sum := "2f3bb93abff049b53dcaeff8574acbb1a52475b796603c8e2f45df5b30ed1f0c", func := "sleuth/sleuthlaw07.RankOrder", spec := "rankOrder", unfollowed := true, recurses := true, plainKeys := false, apart := false }
def RankOrderSaid : Prop := rankOrderRow.holds Try.pinned (OpenSpec.ofChange rankOrderSpec)

/-- ITS FALSE NEIGHBOUR: 'it returns false'. Refute it at one input. -/
def rankOrderWrong : ChangeSpec := { name := "rankOrder", fn := fun _ => fun
  | [d1, d2, d3] => { results := [.lit (.bool false)], args := [d1, d2, d3] }
  | _ => none }
def RankOrderWrongFalsely : Prop := rankOrderRow.holds Try.pinned (OpenSpec.ofChange rankOrderWrong)

/-- 'sleuthlaw07.RankScores': WHATEVER THE INPUT: true; the input reads as it did. -/
def rankScoresSpec : ChangeSpec := { name := "rankScores", fn := fun _ => fun
  | [d1, d2] => { results := [.lit (.bool true)], args := [d1, d2] }
  | _ => none }
def rankScoresRow : OpenClaim := { program := "ytfpmbjobieeidaa", sum := "2f3bb93abff049b53dcaeff8574acbb1a52475b796603c8e2f45df5b30ed1f0c", func := "sleuth/sleuthlaw07.RankScores", spec := "rankScores", unfollowed := true, recurses := true, plainKeys := false, apart := false }
def RankScoresSaid : Prop := rankScoresRow.holds Try.pinned (OpenSpec.ofChange rankScoresSpec)

/-- ITS FALSE NEIGHBOUR: 'it returns false'. Refute it at one input. -/
def rankScoresWrong : ChangeSpec := { name := "rankScores", fn := fun _ => fun
  | [d1, d2] => { results := [.lit (.bool false)], args := [d1, d2] }
  | _ => none }
def RankScoresWrongFalsely : Prop := rankScoresRow.holds Try.pinned (OpenSpec.ofChange rankScoresWrong)

/-- 'sleuthlaw07.RankMinimal': WHATEVER THE INPUT: true; the input reads as it did. -/
def rankMinimalSpec : ChangeSpec := { name := "rankMinimal", fn := fun _ => fun
  | [d1, d2, d3] => { results := [.lit (.bool true)], args := [d1, d2, d3] }
  | _ => none }
def rankMinimalRow : OpenClaim := { program := "ytfpmbjobieeidaa", sum := "2f3bb93abff049b53dcaeff8574acbb1a52475b796603c8e2f45df5b30ed1f0c", func := "sleuth/sleuthlaw07.RankMinimal", spec := "rankMinimal", unfollowed := true, recurses := true, plainKeys := false, apart := false }
def RankMinimalSaid : Prop := rankMinimalRow.holds Try.pinned (OpenSpec.ofChange rankMinimalSpec)

/-- ITS FALSE NEIGHBOUR: 'it returns false'. Refute it at one input. -/
def rankMinimalWrong : ChangeSpec := { name := "rankMinimal", fn := fun _ => fun
  | [d1, d2, d3] => { results := [.lit (.bool false)], args := [d1, d2, d3] }
  | _ => none }
def RankMinimalWrongFalsely : Prop := rankMinimalRow.holds Try.pinned (OpenSpec.ofChange rankMinimalWrong)

/-- 'sleuthlaw07.RankAgree': WHATEVER THE INPUT: true; the input reads as it did. -/
def rankAgreeSpec : ChangeSpec := { name := "rankAgree", fn := fun _ => fun
  | [d1, d2] => { results := [.lit (.bool true)], args := [d1, d2] }
  | _ => none }
def rankAgreeRow : OpenClaim := { program := "ytfpmbjobieeidaa", sum := "2f3bb93abff049b53dcaeff8574acbb1a52475b796603c8e2f45df5b30ed1f0c", func := "sleuth/sleuthlaw07.RankAgree", spec := "rankAgree", unfollowed := true, recurses := true, plainKeys := false, apart := false }
def RankAgreeSaid : Prop := rankAgreeRow.holds Try.pinned (OpenSpec.ofChange rankAgreeSpec)

/-- ITS FALSE NEIGHBOUR: 'it returns false'. Refute it at one input. -/
def rankAgreeWrong : ChangeSpec := { name := "rankAgree", fn := fun _ => fun
  | [d1, d2] => { results := [.lit (.bool false)], args := [d1, d2] }
  | _ => none }
def RankAgreeWrongFalsely : Prop := rankAgreeRow.holds Try.pinned (OpenSpec.ofChange rankAgreeWrong)

/-- 'sleuthlaw07.RankSmallest': WHATEVER THE INPUT: true; the input reads as it did. -/
def rankSmallestSpec : ChangeSpec := { name := "rankSmallest", fn := fun _ => fun
  | [d1, d2, d3] => { results := [.lit (.bool true)], args := [d1, d2, d3] }
  | _ => none }
def rankSmallestRow : OpenClaim := { program := "ytfpmbjobieeidaa", sum := "2f3bb93abff049b53dcaeff8574acbb1a52475b796603c8e2f45df5b30ed1f0c", func := "sleuth/sleuthlaw07.RankSmallest", spec := "rankSmallest", unfollowed := true, recurses := true, plainKeys := false, apart := false }
def RankSmallestSaid : Prop := rankSmallestRow.holds Try.pinned (OpenSpec.ofChange rankSmallestSpec)

/-- ITS FALSE NEIGHBOUR: 'it returns false'. Refute it at one input. -/
def rankSmallestWrong : ChangeSpec := { name := "rankSmallest", fn := fun _ => fun
  | [d1, d2, d3] => { results := [.lit (.bool false)], args := [d1, d2, d3] }
  | _ => none }
def RankSmallestWrongFalsely : Prop := rankSmallestRow.holds Try.pinned (OpenSpec.ofChange rankSmallestWrong)

/-- 'sleuthlaw07.RankRows': WHATEVER THE INPUT: true; the input reads as it did. -/
def rankRowsSpec : ChangeSpec := { name := "rankRows", fn := fun _ => fun
  | [d1, d2, d3] => { results := [.lit (.bool true)], args := [d1, d2, d3] }
  | _ => none }
def rankRowsRow : OpenClaim := { program := "ytfpmbjobieeidaa", sum := "2f3bb93abff049b53dcaeff8574acbb1a52475b796603c8e2f45df5b30ed1f0c", func := "sleuth/sleuthlaw07.RankRows", spec := "rankRows", unfollowed := true, recurses := true, plainKeys := false, apart := false }
def RankRowsSaid : Prop := rankRowsRow.holds Try.pinned (OpenSpec.ofChange rankRowsSpec)

/-- ITS FALSE NEIGHBOUR: 'it returns false'. Refute it at one input. -/
def rankRowsWrong : ChangeSpec := { name := "rankRows", fn := fun _ => fun
  | [d1, d2, d3] => { results := [.lit (.bool false)], args := [d1, d2, d3] }
  | _ => none }
def RankRowsWrongFalsely : Prop := rankRowsRow.holds Try.pinned (OpenSpec.ofChange rankRowsWrong)

/-- 'sleuthlaw07.RankEffort': WHATEVER THE INPUT: true; the input reads as it did. -/
def rankEffortSpec : ChangeSpec := { name := "rankEffort", fn := fun _ => fun
  | [d1, d2, d3, d4] => { results := [.lit (.bool true)], args := [d1, d2, d3, d4] }
  | _ => none }
def rankEffortRow : OpenClaim := { program := "ytfpmbjobieeidaa", sum := "2f3bb93abff049b53dcaeff8574acbb1a52475b796603c8e2f45df5b30ed1f0c", func := "sleuth/sleuthlaw07.RankEffort", spec := "rankEffort", unfollowed := true, recurses := true, plainKeys := false, apart := false }
def RankEffortSaid : Prop := rankEffortRow.holds Try.pinned (OpenSpec.ofChange rankEffortSpec)

/-- ITS FALSE NEIGHBOUR: 'it returns false'. Refute it at one input. -/
def rankEffortWrong : ChangeSpec := { name := "rankEffort", fn := fun _ => fun
  | [d1, d2, d3, d4] => { results := [.lit (.bool false)], args := [d1, d2, d3, d4] }
  | _ => none }
def RankEffortWrongFalsely : Prop := rankEffortRow.holds Try.pinned (OpenSpec.ofChange rankEffortWrong)

/-- 'sleuthlaw07.RankBases': WHATEVER THE INPUT: true; the input reads as it did. -/
def rankBasesSpec : ChangeSpec := { name := "rankBases", fn := fun _ => fun
  | [d1, d2, d3, d4] => { results := [.lit (.bool true)], args := [d1, d2, d3, d4] }
  | _ => none }
def rankBasesRow : OpenClaim := { program := "ytfpmbjobieeidaa", sum := "2f3bb93abff049b53dcaeff8574acbb1a52475b796603c8e2f45df5b30ed1f0c", func := "sleuth/sleuthlaw07.RankBases", spec := "rankBases", unfollowed := true, recurses := true, plainKeys := false, apart := false }
def RankBasesSaid : Prop := rankBasesRow.holds Try.pinned (OpenSpec.ofChange rankBasesSpec)

/-- ITS FALSE NEIGHBOUR: 'it returns false'. Refute it at one input. -/
def rankBasesWrong : ChangeSpec := { name := "rankBases", fn := fun _ => fun
  | [d1, d2, d3, d4] => { results := [.lit (.bool false)], args := [d1, d2, d3, d4] }
  | _ => none }
def RankBasesWrongFalsely : Prop := rankBasesRow.holds Try.pinned (OpenSpec.ofChange rankBasesWrong)

/- THE SECOND FORM. 'bulk': how many values and letters a reading holds, each counted each time it is reached (what is shared counts as often as it is met; a slice's spare places count too). A statement '..UptoSaid' is the law's where the arguments, and the package variables that the reading takes, are together of bulk at most 1048576: NARROWER than '..Said'. Prove '..Said' where nothing that the law and all that it calls make is longer than what came in: it says more and counts as full. Else prove '..UptoSaid'. A law counts once. -/
mutual
def uptoBulk {H : Type} : DataW H → Nat
  | .lit (.string bytes) => bytes.length + 1
  | .lit _ => 1
  | .nil => 1
  | .ptr d => uptoBulk d + 1
  | .slice elems spare => uptoBulkAll elems + uptoBulkAll spare + 1
  | .agg parts => uptoBulkAll parts + 1
  | .iface _ d => uptoBulk d + 1
  | .map entries => uptoBulkEntries entries + 1
  | .held _ => 1
def uptoBulkAll {H : Type} : List (DataW H) → Nat
  | [] => 0
  | d :: r => uptoBulk d + uptoBulkAll r
def uptoBulkEntries {H : Type} : List (Lit × DataW H) → Nat
  | [] => 0
  | x :: r => uptoBulkEntry x + uptoBulkEntries r
def uptoBulkEntry {H : Type} : Lit × DataW H → Nat
  | (.string bytes, d) => bytes.length + uptoBulk d + 1
  | (_, d) => uptoBulk d + 1
 end
def uptoSmall : (H : Type) → List (DataW H) → Bool := fun _ ds => decide (uptoBulkAll ds ≤ 1048576)
def OpenSpec.upto (s : _root_.Go.ChangeSpec) : _root_.Go.OpenSpec := { _root_.Go.OpenSpec.ofChange s with cond := some uptoSmall }

/-- 'sleuthlaw07.RankFractions', WHERE WHAT IT READS IS OF BULK AT MOST 1048576: true; the input reads as it did. -/
def rankFractionsUptoRow : OpenClaim := { program := "ytfpmbjobieeidaa", sum := "2f3bb93abff049b53dcaeff8574acbb1a52475b796603c8e2f45df5b30ed1f0c", func := "sleuth/sleuthlaw07.RankFractions", spec := "rankFractions", unfollowed := true, recurses := true, plainKeys := false, apart := false, narrowed := true }
def RankFractionsUptoSaid : Prop := rankFractionsUptoRow.holds Try.pinned (OpenSpec.upto rankFractionsSpec)

/-- 'sleuthlaw07.RankOrder', WHERE WHAT IT READS IS OF BULK AT MOST 1048576: true; the input reads as it did. -/
def rankOrderUptoRow : OpenClaim := { program := "ytfpmbjobieeidaa", sum := "2f3bb93abff049b53dcaeff8574acbb1a52475b796603c8e2f45df5b30ed1f0c", func := "sleuth/sleuthlaw07.RankOrder", spec := "rankOrder", unfollowed := true, recurses := true, plainKeys := false, apart := false, narrowed := true }
def RankOrderUptoSaid : Prop := rankOrderUptoRow.holds Try.pinned (OpenSpec.upto rankOrderSpec)

/-- 'sleuthlaw07.RankScores', WHERE WHAT IT READS IS OF BULK AT MOST 1048576: true; the input reads as it did. -/
def rankScoresUptoRow : OpenClaim := { program := "ytfpmbjobieeidaa", sum := "2f3bb93abff049b53dcaeff8574acbb1a52475b796603c8e2f45df5b30ed1f0c", func := "sleuth/sleuthlaw07.RankScores", spec := "rankScores", unfollowed := true, recurses := true, plainKeys := false, apart := false, narrowed := true }
def RankScoresUptoSaid : Prop := rankScoresUptoRow.holds Try.pinned (OpenSpec.upto rankScoresSpec)

/-- 'sleuthlaw07.RankMinimal', WHERE WHAT IT READS IS OF BULK AT MOST 1048576: true; the input reads as it did. -/
def rankMinimalUptoRow : OpenClaim := { program := "ytfpmbjobieeidaa", sum := "2f3bb93abff049b53dcaeff8574acbb1a52475b796603c8e2f45df5b30ed1f0c", func := "sleuth/sleuthlaw07.RankMinimal", spec := "rankMinimal", unfollowed := true, recurses := true, plainKeys := false, apart := false, narrowed := true }
def RankMinimalUptoSaid : Prop := rankMinimalUptoRow.holds Try.pinned (OpenSpec.upto rankMinimalSpec)

/-- 'sleuthlaw07.RankAgree', WHERE WHAT IT READS IS OF BULK AT MOST 1048576: true; the input reads as it did. -/
def rankAgreeUptoRow : OpenClaim := { program := "ytfpmbjobieeidaa", sum := "2f3bb93abff049b53dcaeff8574acbb1a52475b796603c8e2f45df5b30ed1f0c", func := "sleuth/sleuthlaw07.RankAgree", spec := "rankAgree", unfollowed := true, recurses := true, plainKeys := false, apart := false, narrowed := true }
def RankAgreeUptoSaid : Prop := rankAgreeUptoRow.holds Try.pinned (OpenSpec.upto rankAgreeSpec)

/-- 'sleuthlaw07.RankSmallest', WHERE WHAT IT READS IS OF BULK AT MOST 1048576: true; the input reads as it did. -/
def rankSmallestUptoRow : OpenClaim := { program := "ytfpmbjobieeidaa", sum := "2f3bb93abff049b53dcaeff8574acbb1a52475b796603c8e2f45df5b30ed1f0c", func := "sleuth/sleuthlaw07.RankSmallest", spec := "rankSmallest", unfollowed := true, recurses := true, plainKeys := false, apart := false, narrowed := true }
def RankSmallestUptoSaid : Prop := rankSmallestUptoRow.holds Try.pinned (OpenSpec.upto rankSmallestSpec)

/-- 'sleuthlaw07.RankRows', WHERE WHAT IT READS IS OF BULK AT MOST 1048576: true; the input reads as it did. -/
def rankRowsUptoRow : OpenClaim := { program := "ytfpmbjobieeidaa", sum := "2f3bb93abff049b53dcaeff8574acbb1a52475b796603c8e2f45df5b30ed1f0c", func := "sleuth/sleuthlaw07.RankRows", spec := "rankRows", unfollowed := true, recurses := true, plainKeys := false, apart := false, narrowed := true }
def RankRowsUptoSaid : Prop := rankRowsUptoRow.holds Try.pinned (OpenSpec.upto rankRowsSpec)

/-- 'sleuthlaw07.RankEffort', WHERE WHAT IT READS IS OF BULK AT MOST 1048576: true; the input reads as it did. -/
def rankEffortUptoRow : OpenClaim := { program := "ytfpmbjobieeidaa", sum := "2f3bb93abff049b53dcaeff8574acbb1a52475b796603c8e2f45df5b30ed1f0c", func := "sleuth/sleuthlaw07.RankEffort", spec := "rankEffort", unfollowed := true, recurses := true, plainKeys := false, apart := false, narrowed := true }
def RankEffortUptoSaid : Prop := rankEffortUptoRow.holds Try.pinned (OpenSpec.upto rankEffortSpec)

/-- 'sleuthlaw07.RankBases', WHERE WHAT IT READS IS OF BULK AT MOST 1048576: true; the input reads as it did. -/
def rankBasesUptoRow : OpenClaim := { program := "ytfpmbjobieeidaa", sum := "2f3bb93abff049b53dcaeff8574acbb1a52475b796603c8e2f45df5b30ed1f0c", func := "sleuth/sleuthlaw07.RankBases", spec := "rankBases", unfollowed := true, recurses := true, plainKeys := false, apart := false, narrowed := true }
def RankBasesUptoSaid : Prop := rankBasesUptoRow.holds Try.pinned (OpenSpec.upto rankBasesSpec)

end Rows
end Go.Proofs.Ytfpmbjobieeidaa
