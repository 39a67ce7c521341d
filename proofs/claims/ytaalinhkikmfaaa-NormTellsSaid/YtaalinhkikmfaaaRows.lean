/-
  No cell of these rows narrows 'for every input' (looked for: loops, veiled, ifaces, maps, wideKeys, modest, calm, conditions, laid).
  DERIVED. THE GIVEN ROWS OF THIS SEAT. 4 by the template 'for every input the law returns true; each argument reads behind the call as it read before'; 0 by the template 'total and deterministic' (their statements: YtaalinhkikmfaaaTotals.lean).
  GIVEN WITH THE SEED: the statements are not yours to turn. If you find one false, say at which input.
  Laid BY PROGRAM, IN A SANDBOX (cutbox-rows.mjs): the forced cells as the released guide's own fill.sh prints them over the translation 1149744a7ec801eb… (all of the seat's roots in one cut). By AI agents, Wed Nov 11 2026. No macro, syntax, notation, axiom, sorry.
-/
import Derived.Test.YtaalinhkikmfaaaChecked
import GoSem.Claim
import GoSem.ClaimJoined
import GoSem.ClaimMapViews
import Derived.JoinedTies
import Derived.KernelRfl
namespace Go.Proofs.Ytaalinhkikmfaaa
/- THE CELL 'sum', in the pinned program and in every row, IS THE sha256 OF THE DUMP (.gsa) THAT YtaalinhkikmfaaaProg.lean LOADS. Nothing in Lean hashes anything: it is a label: what it is worth is what the hold of that sum in a sandbox is worth. -/
noncomputable def Try.pinned : Pinned := { name := "ytaalinhkikmfaaa", sum := "1149744a7ec801eb61117146e81c7c2e755644fccfef6a8bfe80495f8b4d8ad5", checked := Try.checked }
namespace Rows
def none {H : Type} : Left H := { results := [], args := [] }

/-- 'assizelaw15.NormTells': WHATEVER THE INPUT: true; the input reads as it did. -/
def normTellsSpec : ChangeSpec := { name := "normTells", fn := fun _ => fun
  | [d1, d2, d3, d4] => { results := [.lit (.bool true)], args := [d1, d2, d3, d4] }
  | _ => none }
def normTellsRow : OpenClaim := { program := "ytaalinhkikmfaaa", sum := "1149744a7ec801eb61117146e81c7c2e755644fccfef6a8bfe80495f8b4d8ad5", func := "assize/assizelaw15.NormTells", spec := "normTells", unfollowed := true, recurses := true, apart := false }
def NormTellsSaid : Prop := normTellsRow.holds Try.pinned (OpenSpec.ofChange normTellsSpec)

/-- ITS FALSE NEIGHBOUR: 'it returns false'. Refute it at one input. -/
def normTellsWrong : ChangeSpec := { name := "normTells", fn := fun _ => fun
  | [d1, d2, d3, d4] => { results := [.lit (.bool false)], args := [d1, d2, d3, d4] }
  | _ => none }
def NormTellsWrongFalsely : Prop := normTellsRow.holds Try.pinned (OpenSpec.ofChange normTellsWrong)

/-- 'assizelaw15.NormKnown': WHATEVER THE INPUT: true; the input reads as it did. -/
def normKnownSpec : ChangeSpec := { name := "normKnown", fn := fun _ => fun
  | [] => { results := [.lit (.bool true)], args := [] }
  | _ => none }
def normKnownRow : OpenClaim := { program := "ytaalinhkikmfaaa", sum := "1149744a7ec801eb61117146e81c7c2e755644fccfef6a8bfe80495f8b4d8ad5", func := "assize/assizelaw15.NormKnown", spec := "normKnown", unfollowed := true, recurses := true, apart := false }
def NormKnownSaid : Prop := normKnownRow.holds Try.pinned (OpenSpec.ofChange normKnownSpec)

/-- ITS FALSE NEIGHBOUR: 'it returns false'. Refute it at one input. -/
def normKnownWrong : ChangeSpec := { name := "normKnown", fn := fun _ => fun
  | [] => { results := [.lit (.bool false)], args := [] }
  | _ => none }
def NormKnownWrongFalsely : Prop := normKnownRow.holds Try.pinned (OpenSpec.ofChange normKnownWrong)

/-- 'assizelaw15.NormOne': WHATEVER THE INPUT: true; the input reads as it did. -/
def normOneSpec : ChangeSpec := { name := "normOne", fn := fun _ => fun
  | [d1, d2, d3] => { results := [.lit (.bool true)], args := [d1, d2, d3] }
  | _ => none }
def normOneRow : OpenClaim := { program := "ytaalinhkikmfaaa", sum := "1149744a7ec801eb61117146e81c7c2e755644fccfef6a8bfe80495f8b4d8ad5", func := "assize/assizelaw15.NormOne", spec := "normOne", unfollowed := true, recurses := true, apart := false }
def NormOneSaid : Prop := normOneRow.holds Try.pinned (OpenSpec.ofChange normOneSpec)

/-- ITS FALSE NEIGHBOUR: 'it returns false'. Refute it at one input. -/
def normOneWrong : ChangeSpec := { name := "normOne", fn := fun _ => fun
  | [d1, d2, d3] => { results := [.lit (.bool false)], args := [d1, d2, d3] }
  | _ => none }
def NormOneWrongFalsely : Prop := normOneRow.holds Try.pinned (OpenSpec.ofChange normOneWrong)

/-- 'assizelaw15.NormAll': WHATEVER THE INPUT: true; the input reads as it did. -/
def normAllSpec : ChangeSpec := { name := "normAll", fn := fun _ => fun
  | [d1, d2, d3] => { results := [.lit (.bool true)], args := [d1, d2, d3] }
  | _ => none }
def normAllRow : OpenClaim := { program := "ytaalinhkikmfaaa", sum := "1149744a7ec801eb61117146e81c7c2e755644fccfef6a8bfe80495f8b4d8ad5", func := "assize/assizelaw15.NormAll", spec := "normAll", unfollowed := true, recurses := true, apart := false }
def NormAllSaid : Prop := normAllRow.holds Try.pinned (OpenSpec.ofChange normAllSpec)

/-- ITS FALSE NEIGHBOUR: 'it returns false'. Refute it at one input. -/
def normAllWrong : ChangeSpec := { name := "normAll", fn := fun _ => fun
  | [d1, d2, d3] => { results := [.lit (.bool false)], args := [d1, d2, d3] }
  | _ => none }
def NormAllWrongFalsely : Prop := normAllRow.holds Try.pinned (OpenSpec.ofChange normAllWrong)

/- THE SECOND FORM. 'bulk': how many values and letters a reading holds, each counted each time it is reached (what is shared counts as often as it is met; a slice's spare places count too). A statement '..UptoSaid' is the law's where the arguments, and the package variables that the reading takes, are together of bulk at most 1048576: NARROWER than '..Said'. Prove '..Said' where nothing that the law and all that it calls make is longer than what came in: it says more and counts as full. Else prove '..UptoSaid'. A law counts once. -/
mutual
def uptoBulk {H : Type} : DataW H → Nat
  | .lit (.string bytes) => bytes.length + 1
  | .lit _ => 1
  | .nil => 1
  | .ptr d => uptoBulk d + 1
  | .slice elems spare => uptoBulkAll elems + uptoBulkAll spare + 1
  | .agg parts => uptoBulkAll parts + 1
  | .iface _ d => uptoBulk d + 1
  | .map entries => uptoBulkEntries entries + 1
  | .held _ => 1
def uptoBulkAll {H : Type} : List (DataW H) → Nat
  | [] => 0
  | d :: r => uptoBulk d + uptoBulkAll r
def uptoBulkEntries {H : Type} : List (Lit × DataW H) → Nat
  | [] => 0
  | x :: r => uptoBulkEntry x + uptoBulkEntries r
def uptoBulkEntry {H : Type} : Lit × DataW H → Nat
  | (.string bytes, d) => bytes.length + uptoBulk d + 1
  | (_, d) => uptoBulk d + 1
 end
def uptoSmall : (H : Type) → List (DataW H) → Bool := fun _ ds => decide (uptoBulkAll ds ≤ 1048576)
def OpenSpec.upto (s : _root_.Go.ChangeSpec) : _root_.Go.OpenSpec := { _root_.Go.OpenSpec.ofChange s with cond := some uptoSmall }

/-- 'assizelaw15.NormTells', WHERE WHAT IT READS IS OF BULK AT MOST 1048576: true; the input reads as it did. -/
def normTellsUptoRow : OpenClaim := { program := "ytaalinhkikmfaaa", sum := "1149744a7ec801eb61117146e81c7c2e755644fccfef6a8bfe80495f8b4d8ad5", func := "assize/assizelaw15.NormTells", spec := "normTells", unfollowed := true, recurses := true, apart := false, narrowed := true }
def NormTellsUptoSaid : Prop := normTellsUptoRow.holds Try.pinned (OpenSpec.upto normTellsSpec)

/-- 'assizelaw15.NormKnown', WHERE WHAT IT READS IS OF BULK AT MOST 1048576: true; the input reads as it did. -/
def normKnownUptoRow : OpenClaim := { program := "ytaalinhkikmfaaa", sum := "1149744a7ec801eb61117146e81c7c2e755644fccfef6a8bfe80495f8b4d8ad5", func := "assize/assizelaw15.NormKnown", spec := "normKnown", unfollowed := true, recurses := true, apart := false, narrowed := true }
def NormKnownUptoSaid : Prop := normKnownUptoRow.holds Try.pinned (OpenSpec.upto normKnownSpec)

/-- 'assizelaw15.NormOne', WHERE WHAT IT READS IS OF BULK AT MOST 1048576: true; the input reads as it did. -/
def normOneUptoRow : OpenClaim := { program := "ytaalinhkikmfaaa", sum := "1149744a7ec801eb61117146e81c7c2e755644fccfef6a8bfe80495f8b4d8ad5", func := "assize/assizelaw15.NormOne", spec := "normOne", unfollowed := true, recurses := true, apart := false, narrowed := true }
def NormOneUptoSaid : Prop := normOneUptoRow.holds Try.pinned (OpenSpec.upto normOneSpec)

/-- 'assizelaw15.NormAll', WHERE WHAT IT READS IS OF BULK AT MOST 1048576: true; the input reads as it did. -/
def normAllUptoRow : OpenClaim := { program := "ytaalinhkikmfaaa", sum := "1149744a7ec801eb61117146e81c7c2e755644fccfef6a8bfe80495f8b4d8ad5", func := "assize/assizelaw15.NormAll", spec := "normAll", unfollowed := true, recurses := true, apart := false, narrowed := true }
def NormAllUptoSaid : Prop := normAllUptoRow.holds Try.pinned (OpenSpec.upto normAllSpec)

end Rows
end Go.Proofs.Ytaalinhkikmfaaa
