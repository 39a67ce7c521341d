/-
  No cell of these rows narrows 'for every input' (looked for: loops, veiled, ifaces, maps, wideKeys, modest, calm, conditions, laid).
  DERIVED. THE GIVEN ROWS OF THIS SEAT. 4 by the template 'for every input the law returns true; each argument reads behind the call as it read before'; 0 by the template 'total and deterministic' (their statements: YtkcpoebepiipoaaTotals.lean).
  GIVEN WITH THE SEED: the statements are not yours to turn. If you find one false, say at which input.
  Laid BY PROGRAM, IN A SANDBOX (cutbox-rows.mjs): the forced cells as the released guide's own fill.sh prints them over the translation 38707d341dc8daa0… (all of the seat's roots in one cut). By AI agents, Wed Nov 11 2026. No macro, syntax, notation, axiom, sorry.
-/
import Derived.Test.YtkcpoebepiipoaaChecked
import GoSem.Claim
import GoSem.ClaimJoined
import GoSem.ClaimMapViews
import Derived.JoinedTies
import Derived.KernelRfl
namespace Go.Proofs.Ytkcpoebepiipoaa
/- THE CELL 'sum', in the pinned program and in every row, IS THE sha256 OF THE DUMP (.gsa) THAT YtkcpoebepiipoaaProg.lean LOADS. Nothing in Lean hashes anything: it is a label: what it is worth is what the hold of that sum in a sandbox is worth. -/
noncomputable def Try.pinned : Pinned := { name := "ytkcpoebepiipoaa", sum := "38707d341dc8daa048f582db8067fa5a7bb861015afedf4ba51cb43b8c369b07", checked := Try.checked }
namespace Rows
def none {H : Type} : Left H := { results := [], args := [] }

/-- 'assizelaw14.RaceTells': WHATEVER THE INPUT: true; the input reads as it did. -/
def raceTellsSpec : ChangeSpec := { name := "raceTells", fn := fun _ => fun
  | [d1, d2, d3] => { results := [.lit (.bool true)], args := [d1, d2, d3] }
  | _ => none }
def raceTellsRow : OpenClaim := { program := "ytkcpoebepiipoaa", sum := "38707d341dc8daa048f582db8067fa5a7bb861015afedf4ba51cb43b8c369b07", func := "assize/assizelaw14.RaceTells", spec := "raceTells", unfollowed := true, recurses := true, apart := false }
def RaceTellsSaid : Prop := raceTellsRow.holds Try.pinned (OpenSpec.ofChange raceTellsSpec)

/-- ITS FALSE NEIGHBOUR: 'it returns false'. Refute it at one input. -/
def raceTellsWrong : ChangeSpec := { name := "raceTells", fn := fun _ => fun
  | [d1, d2, d3] => { results := [.lit (.bool false)], args := [d1, d2, d3] }
  | _ => none }
def RaceTellsWrongFalsely : Prop := raceTellsRow.holds Try.pinned (OpenSpec.ofChange raceTellsWrong)

/-- 'assizelaw14.RaceKnown': WHATEVER THE INPUT: true; the input reads as it did. -/
def raceKnownSpec : ChangeSpec := { name := "raceKnown", fn := fun _ => fun
  | [] => { results := [.lit (.bool true)], args := [] }
  | _ => none }
def raceKnownRow : OpenClaim := { program := "ytkcpoebepiipoaa", sum := "38707d341dc8daa048f582db8067fa5a7bb861015afedf4ba51cb43b8c369b07", func := "assize/assizelaw14.RaceKnown", spec := "raceKnown", unfollowed := true, recurses := true, apart := false }
def RaceKnownSaid : Prop := raceKnownRow.holds Try.pinned (OpenSpec.ofChange raceKnownSpec)

/-- ITS FALSE NEIGHBOUR: 'it returns false'. Refute it at one input. -/
def raceKnownWrong : ChangeSpec := { name := "raceKnown", fn := fun _ => fun
  | [] => { results := [.lit (.bool false)], args := [] }
  | _ => none }
def RaceKnownWrongFalsely : Prop := raceKnownRow.holds Try.pinned (OpenSpec.ofChange raceKnownWrong)

/-- 'assizelaw14.RaceJoins': WHATEVER THE INPUT: true; the input reads as it did. -/
def raceJoinsSpec : ChangeSpec := { name := "raceJoins", fn := fun _ => fun
  | [d1, d2] => { results := [.lit (.bool true)], args := [d1, d2] }
  | _ => none }
def raceJoinsRow : OpenClaim := { program := "ytkcpoebepiipoaa", sum := "38707d341dc8daa048f582db8067fa5a7bb861015afedf4ba51cb43b8c369b07", func := "assize/assizelaw14.RaceJoins", spec := "raceJoins", unfollowed := true, recurses := true, apart := false }
def RaceJoinsSaid : Prop := raceJoinsRow.holds Try.pinned (OpenSpec.ofChange raceJoinsSpec)

/-- ITS FALSE NEIGHBOUR: 'it returns false'. Refute it at one input. -/
def raceJoinsWrong : ChangeSpec := { name := "raceJoins", fn := fun _ => fun
  | [d1, d2] => { results := [.lit (.bool false)], args := [d1, d2] }
  | _ => none }
def RaceJoinsWrongFalsely : Prop := raceJoinsRow.holds Try.pinned (OpenSpec.ofChange raceJoinsWrong)

/-- 'assizelaw14.RaceGuards': WHATEVER THE INPUT: true; the input reads as it did. -/
def raceGuardsSpec : ChangeSpec := { name := "raceGuards", fn := fun _ => fun
  | [d1, d2] => { results := [.lit (.bool true)], args := [d1, d2] }
  | _ => none }
def raceGuardsRow : OpenClaim := { program := "ytkcpoebepiipoaa", sum := "38707d341dc8daa048f582db8067fa5a7bb861015afedf4ba51cb43b8c369b07", func := "assize/assizelaw14.RaceGuards", spec := "raceGuards", unfollowed := true, recurses := true, apart := false }
def RaceGuardsSaid : Prop := raceGuardsRow.holds Try.pinned (OpenSpec.ofChange raceGuardsSpec)

/-- ITS FALSE NEIGHBOUR: 'it returns false'. Refute it at one input. -/
def raceGuardsWrong : ChangeSpec := { name := "raceGuards", fn := fun _ => fun
  | [d1, d2] => { results := [.lit (.bool false)], args := [d1, d2] }
  | _ => none }
def RaceGuardsWrongFalsely : Prop := raceGuardsRow.holds Try.pinned (OpenSpec.ofChange raceGuardsWrong)

/- THE SECOND FORM. 'bulk': how many values and letters a reading holds, each counted each time it is reached (what is shared counts as often as it is met; a slice's spare places count too). A statement '..UptoSaid' is the law's where the arguments, and the package variables that the reading takes, are together of bulk at most 1048576: NARROWER than '..Said'. Prove '..Said' where nothing that the law and all that it calls make is longer than what came in: it says more and counts as full. Else prove '..UptoSaid'. A law counts once. -/
mutual
def uptoBulk {H : Type} : DataW H → Nat
  | .lit (.string bytes) => bytes.length + 1
  | .lit _ => 1
  | .nil => 1
  | .ptr d => uptoBulk d + 1
  | .slice elems spare => uptoBulkAll elems + uptoBulkAll spare + 1
  | .agg parts => uptoBulkAll parts + 1
  | .iface _ d => uptoBulk d + 1
  | .map entries => uptoBulkEntries entries + 1
  | .held _ => 1
def uptoBulkAll {H : Type} : List (DataW H) → Nat
  | [] => 0
  | d :: r => uptoBulk d + uptoBulkAll r
def uptoBulkEntries {H : Type} : List (Lit × DataW H) → Nat
  | [] => 0
  | x :: r => uptoBulkEntry x + uptoBulkEntries r
def uptoBulkEntry {H : Type} : Lit × DataW H → Nat
  | (.string bytes, d) => bytes.length + uptoBulk d + 1
  | (_, d) => uptoBulk d + 1
 end
def uptoSmall : (H : Type) → List (DataW H) → Bool := fun _ ds => decide (uptoBulkAll ds ≤ 1048576)
def OpenSpec.upto (s : _root_.Go.ChangeSpec) : _root_.Go.OpenSpec := { _root_.Go.OpenSpec.ofChange s with cond := some uptoSmall }

/-- 'assizelaw14.RaceTells', WHERE WHAT IT READS IS OF BULK AT MOST 1048576: true; the input reads as it did. -/
def raceTellsUptoRow : OpenClaim := { program := "ytkcpoebepiipoaa", sum := "38707d341dc8daa048f582db8067fa5a7bb861015afedf4ba51cb43b8c369b07", func := "assize/assizelaw14.RaceTells", spec := "raceTells", unfollowed := true, recurses := true, apart := false, narrowed := true }
def RaceTellsUptoSaid : Prop := raceTellsUptoRow.holds Try.pinned (OpenSpec.upto raceTellsSpec)

/-- 'assizelaw14.RaceKnown', WHERE WHAT IT READS IS OF BULK AT MOST 1048576: true; the input reads as it did. -/
def raceKnownUptoRow : OpenClaim := { program := "ytkcpoebepiipoaa", sum := "38707d341dc8daa048f582db8067fa5a7bb861015afedf4ba51cb43b8c369b07", func := "assize/assizelaw14.RaceKnown", spec := "raceKnown", unfollowed := true, recurses := true, apart := false, narrowed := true }
def RaceKnownUptoSaid : Prop := raceKnownUptoRow.holds Try.pinned (OpenSpec.upto raceKnownSpec)

/-- 'assizelaw14.RaceJoins', WHERE WHAT IT READS IS OF BULK AT MOST 1048576: true; the input reads as it did. -/
def raceJoinsUptoRow : OpenClaim := { program := "ytkcpoebepiipoaa", sum := "38707d341dc8daa048f582db8067fa5a7bb861015afedf4ba51cb43b8c369b07", func := "assize/assizelaw14.RaceJoins", spec := "raceJoins", unfollowed := true, recurses := true, apart := false, narrowed := true }
def RaceJoinsUptoSaid : Prop := raceJoinsUptoRow.holds Try.pinned (OpenSpec.upto raceJoinsSpec)

/-- 'assizelaw14.RaceGuards', WHERE WHAT IT READS IS OF BULK AT MOST 1048576: true; the input reads as it did. -/
def raceGuardsUptoRow : OpenClaim := { program := "ytkcpoebepiipoaa", sum := "38707d341dc8daa048f582db8067fa5a7bb861015afedf4ba51cb43b8c369b07", func := "assize/assizelaw14.RaceGuards", spec := "raceGuards", unfollowed := true, recurses := true, apart := false, narrowed := true }
def RaceGuardsUptoSaid : Prop := raceGuardsUptoRow.holds Try.pinned (OpenSpec.upto raceGuardsSpec)

end Rows
end Go.Proofs.Ytkcpoebepiipoaa
