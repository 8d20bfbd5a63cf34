/-
  No cell of these rows narrows 'for every input' (looked for: loops, veiled, ifaces, maps, wideKeys, modest, calm, conditions, laid).
  DERIVED. THE GIVEN ROWS OF THIS SEAT. 2 by the template 'for every input the law returns true; each argument reads behind the call as it read before'; 0 by the template 'total and deterministic' (their statements: YtfpmbjobieeidaaGreatTotals.lean).
  GIVEN WITH THE SEED: the statements are not yours to turn. If you find one false, say at which input.
  Laid BY PROGRAM, IN A SANDBOX (cutbox-rows.mjs): the forced cells as the released guide's own fill.sh prints them over the translation 2a8ed115707df2f9… (all of the seat's roots in one cut). By AI agents, Wed Nov 11 2026. No macro, syntax, notation, axiom, sorry.
-/
import Derived.Test.YtfpmbjobieeidaaGreatChecked
import GoSem.Claim
import GoSem.ClaimJoined
import GoSem.ClaimMapViews
import Derived.JoinedTies
import Derived.KernelRfl
namespace Go.Proofs.YtfpmbjobieeidaaGreat
/- THE CELL 'sum', in the pinned program and in every row, IS THE sha256 OF THE DUMP (.gsa) THAT YtfpmbjobieeidaaGreatProg.lean LOADS. Nothing in Lean hashes anything: it is a label: what it is worth is what the hold of that sum in a sandbox is worth. -/
noncomputable def Tryz.pinned : Pinned := { name := "ytfpmbjobieeidaagreat", sum := "2a8ed115707df2f98fa121ed411c021cc4d629bb948647f19e62524405c77b1c", checked := Tryz.checked }
namespace Rows
def none {H : Type} : Left H := { results := [], args := [] }

/-- 'sleuthlaw07.RankSpectra': WHATEVER THE INPUT: true; the input reads as it did. -/
def rankSpectraSpec : ChangeSpec := { name := "rankSpectra", fn := fun _ => fun
  | [d1, d2, d3] => { results := [.lit (.bool true)], args := [d1, d2, d3] }
  | _ => none }
def rankSpectraRow : OpenClaim := { program := "ytfpmbjobieeidaagreat", sum := "2a8ed115707df2f98fa121ed411c021cc4d629bb948647f19e62524405c77b1c", func := "sleuth/sleuthlaw07.RankSpectra", spec := "rankSpectra", unfollowed := true, recurses := true, plainKeys := false, apart := false }
def RankSpectraSaid : Prop := rankSpectraRow.holds Tryz.pinned (OpenSpec.ofChange rankSpectraSpec)

/-- ITS FALSE NEIGHBOUR: 'it returns false'. Refute it at one input. -/
def rankSpectraWrong : ChangeSpec := { name := "rankSpectra", fn := fun _ => fun
  | [d1, d2, d3] => { results := [.lit (.bool false)], args := [d1, d2, d3] }
  | _ => none }
def RankSpectraWrongFalsely : Prop := rankSpectraRow.holds Tryz.pinned (OpenSpec.ofChange rankSpectraWrong)

/-- 'sleuthlaw07.RankSets': WHATEVER THE INPUT: true; the input reads as it did. -/
def rankSetsSpec : ChangeSpec := { name := "rankSets", fn := fun _ => fun
  | [d1, d2, d3] => { results := [.lit (.bool true)], args := [d1, d2, d3] }
  | _ => none }
def rankSetsRow : OpenClaim := { program := "ytfpmbjobieeidaagreat", sum := "2a8ed115707df2f98fa121ed411c021cc4d629bb948647f19e62524405c77b1c", func := "sleuth/sleuthlaw07.RankSets", spec := "rankSets", unfollowed := true, recurses := true, plainKeys := false, apart := false }
def RankSetsSaid : Prop := rankSetsRow.holds Tryz.pinned (OpenSpec.ofChange rankSetsSpec)

/-- ITS FALSE NEIGHBOUR: 'it returns false'. Refute it at one input. -/
def rankSetsWrong : ChangeSpec := { name := "rankSets", fn := fun _ => fun
  | [d1, d2, d3] => { results := [.lit (.bool false)], args := [d1, d2, d3] }
  | _ => none }
def RankSetsWrongFalsely : Prop := rankSetsRow.holds Tryz.pinned (OpenSpec.ofChange rankSetsWrong)

/- THE SECOND FORM. 'bulk': how many values and letters a reading holds, each counted each time it is reached (what is shared counts as often as it is met; a slice's spare places count too). A statement '..UptoSaid' is the law's where the arguments, and the package variables that the reading takes, are together of bulk at most 1048576: NARROWER than '..Said'. Prove '..Said' where nothing that the law and all that it calls make is longer than what came in: it says more and counts as full. Else prove '..UptoSaid'. A law counts once. -/
mutual
def uptoBulk {H : Type} : DataW H → Nat
  | .lit (.string bytes) => bytes.length + 1
  | .lit _ => 1
  | .nil => 1
  | .ptr d => uptoBulk d + 1
  | .slice elems spare => uptoBulkAll elems + uptoBulkAll spare + 1
  | .agg parts => uptoBulkAll parts + 1
  | .iface _ d => uptoBulk d + 1
  | .map entries => uptoBulkEntries entries + 1
  | .held _ => 1
def uptoBulkAll {H : Type} : List (DataW H) → Nat
  | [] => 0
  | d :: r => uptoBulk d + uptoBulkAll r
def uptoBulkEntries {H : Type} : List (Lit × DataW H) → Nat
  | [] => 0
  | x :: r => uptoBulkEntry x + uptoBulkEntries r
def uptoBulkEntry {H : Type} : Lit × DataW H → Nat
  | (.string bytes, d) => bytes.length + uptoBulk d + 1
  | (_, d) => uptoBulk d + 1
 end
def uptoSmall : (H : Type) → List (DataW H) → Bool := fun _ ds => decide (uptoBulkAll ds ≤ 1048576)
def OpenSpec.upto (s : _root_.Go.ChangeSpec) : _root_.Go.OpenSpec := { _root_.Go.OpenSpec.ofChange s with cond := some uptoSmall }

/-- 'sleuthlaw07.RankSpectra', WHERE WHAT IT READS IS OF BULK AT MOST 1048576: true; the input reads as it did. -/
def rankSpectraUptoRow : OpenClaim := { program := "ytfpmbjobieeidaagreat", sum := "2a8ed115707df2f98fa121ed411c021cc4d629bb948647f19e62524405c77b1c", func := "sleuth/sleuthlaw07.RankSpectra", spec := "rankSpectra", unfollowed := true, recurses := true, plainKeys := false, apart := false, narrowed := true }
def RankSpectraUptoSaid : Prop := rankSpectraUptoRow.holds Tryz.pinned (OpenSpec.upto rankSpectraSpec)

/-- 'sleuthlaw07.RankSets', WHERE WHAT IT READS IS OF BULK AT MOST 1048576: true; the input reads as it did. -/
def rankSetsUptoRow : OpenClaim := { program := "ytfpmbjobieeidaagreat", sum := "2a8ed115707df2f98fa121ed411c021cc4d629bb948647f19e62524405c77b1c", func := "sleuth/sleuthlaw07.RankSets", spec := "rankSets", unfollowed := true, recurses := true, plainKeys := false, apart := false, narrowed := true }
def RankSetsUptoSaid : Prop := rankSetsUptoRow.holds Tryz.pinned (OpenSpec.upto rankSetsSpec)

end Rows
end Go.Proofs.YtfpmbjobieeidaaGreat
