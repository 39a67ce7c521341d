/-
  NARROWER THAN 'FOR EVERY INPUT', by the rows' own cells (each row's printed sentence says how): DigestSums: laid · DigestNil: laid · DigestTokens: laid · DigestScript: laid · DigestTexts: laid · DigestPieces: laid · DigestKnown: laid · TenantWalls: laid · TenantBinds: laid · TenantKnown: laid · TenantScript: laid · TenantNone: laid.
  DERIVED. THE GIVEN ROWS OF THIS SEAT. 12 by the template 'for every input the law returns true; each argument reads behind the call as it read before'; 0 by the template 'total and deterministic' (their statements: YtkdkpnidiehdfaaDoorTotals.lean).
  GIVEN WITH THE SEED: the statements are not yours to turn. If you find one false, say at which input.
  Laid BY PROGRAM, IN A SANDBOX (cutbox-rows.mjs): the forced cells as the released guide's own fill.sh prints them over the translation 4060646aedd963b2… (all of the seat's roots in one cut). By AI agents, Wed Nov 11 2026. No macro, syntax, notation, axiom, sorry.
-/
import Derived.Test.YtkdkpnidiehdfaaDoorChecked
import GoSem.Claim
import GoSem.ClaimJoined
import GoSem.ClaimMapViews
import Derived.JoinedTies
import Derived.KernelRfl
namespace Go.Proofs.YtkdkpnidiehdfaaDoor
/- THE CELL 'sum', in the pinned program and in every row, IS THE sha256 OF THE DUMP (.gsa) THAT YtkdkpnidiehdfaaDoorProg.lean LOADS. Nothing in Lean hashes anything: it is a label: what it is worth is what the hold of that sum in a sandbox is worth. -/
noncomputable def Tryd.pinned : Pinned := { name := "ytkdkpnidiehdfaadoor", sum := "4060646aedd963b28716d4773beb16e3c2208e056c8904c11e117a6f93e5d29b", checked := Tryd.checked }
namespace Rows
def none {H : Type} : Left H := { results := [], args := [] }

/- WHAT THE LISTED PACKAGE-LEVEL VARIABLES READ AS WHEN THE CALL BEGINS. Each datum BY PROGRAM (the guide's laid-datum.mjs) off the statement by which the dump's own 'gosem.cut.vars' lays the variable. In a bare row this is a premise. The card (YtkdkpnidiehdfaaDoorCards.lean) ties it to the program's text. -/
def laid_assize_digest_k {H : Type} : DataW H := .agg [.lit (.int .u32 1116352408), .lit (.int .u32 1899447441), .lit (.int .u32 3049323471), .lit (.int .u32 3921009573), .lit (.int .u32 961987163), .lit (.int .u32 1508970993), .lit (.int .u32 2453635748), .lit (.int .u32 2870763221), .lit (.int .u32 3624381080), .lit (.int .u32 310598401), .lit (.int .u32 607225278), .lit (.int .u32 1426881987), .lit (.int .u32 1925078388), .lit (.int .u32 2162078206), .lit (.int .u32 2614888103), .lit (.int .u32 3248222580), .lit (.int .u32 3835390401), .lit (.int .u32 4022224774), .lit (.int .u32 264347078), .lit (.int .u32 604807628), .lit (.int .u32 770255983), .lit (.int .u32 1249150122), .lit (.int .u32 1555081692), .lit (.int .u32 1996064986), .lit (.int .u32 2554220882), .lit (.int .u32 2821834349), .lit (.int .u32 2952996808), .lit (.int .u32 3210313671), .lit (.int .u32 3336571891), .lit (.int .u32 3584528711), .lit (.int .u32 113926993), .lit (.int .u32 338241895), .lit (.int .u32 666307205), .lit (.int .u32 773529912), .lit (.int .u32 1294757372), .lit (.int .u32 1396182291), .lit (.int .u32 1695183700), .lit (.int .u32 1986661051), .lit (.int .u32 2177026350), .lit (.int .u32 2456956037), .lit (.int .u32 2730485921), .lit (.int .u32 2820302411), .lit (.int .u32 3259730800), .lit (.int .u32 3345764771), .lit (.int .u32 3516065817), .lit (.int .u32 3600352804), .lit (.int .u32 4094571909), .lit (.int .u32 275423344), .lit (.int .u32 430227734), .lit (.int .u32 506948616), .lit (.int .u32 659060556), .lit (.int .u32 883997877), .lit (.int .u32 958139571), .lit (.int .u32 1322822218), .lit (.int .u32 1537002063), .lit (.int .u32 1747873779), .lit (.int .u32 1955562222), .lit (.int .u32 2024104815), .lit (.int .u32 2227730452), .lit (.int .u32 2361852424), .lit (.int .u32 2428436474), .lit (.int .u32 2756734187), .lit (.int .u32 3204031479), .lit (.int .u32 3329325298)]

/-- 'assizelaw02.DigestSums': WHATEVER THE INPUT: true; the input reads as it did. -/
def digestSumsSpec : ChangeSpec := { name := "digestSums", fn := fun _ => fun
  | [d] => { results := [.lit (.bool true)], args := [d] }
  | _ => none }
def digestSumsRow : OpenClaim := { program := "ytkdkpnidiehdfaadoor", sum := "4060646aedd963b28716d4773beb16e3c2208e056c8904c11e117a6f93e5d29b", func := "assize/assizelaw02.DigestSums", spec := "digestSums", named := ["assize/digest.k"], apart := false, laid := [("assize/digest.k", laid_assize_digest_k)] }
def DigestSumsSaid : Prop := digestSumsRow.holds Tryd.pinned (OpenSpec.ofChange digestSumsSpec)

/-- ITS FALSE NEIGHBOUR: 'it returns false'. Refute it at one input. -/
def digestSumsWrong : ChangeSpec := { name := "digestSums", fn := fun _ => fun
  | [d] => { results := [.lit (.bool false)], args := [d] }
  | _ => none }
def DigestSumsWrongFalsely : Prop := digestSumsRow.holds Tryd.pinned (OpenSpec.ofChange digestSumsWrong)

/-- 'assizelaw02.DigestNil': WHATEVER THE INPUT: true; the input reads as it did. -/
def digestNilSpec : ChangeSpec := { name := "digestNil", fn := fun _ => fun
  | [d] => { results := [.lit (.bool true)], args := [d] }
  | _ => none }
def digestNilRow : OpenClaim := { program := "ytkdkpnidiehdfaadoor", sum := "4060646aedd963b28716d4773beb16e3c2208e056c8904c11e117a6f93e5d29b", func := "assize/assizelaw02.DigestNil", spec := "digestNil", named := ["assize/digest.k"], apart := false, laid := [("assize/digest.k", laid_assize_digest_k)] }
def DigestNilSaid : Prop := digestNilRow.holds Tryd.pinned (OpenSpec.ofChange digestNilSpec)

/-- ITS FALSE NEIGHBOUR: 'it returns false'. Refute it at one input. -/
def digestNilWrong : ChangeSpec := { name := "digestNil", fn := fun _ => fun
  | [d] => { results := [.lit (.bool false)], args := [d] }
  | _ => none }
def DigestNilWrongFalsely : Prop := digestNilRow.holds Tryd.pinned (OpenSpec.ofChange digestNilWrong)

/-- 'assizelaw02.DigestTokens': WHATEVER THE INPUT: true; the input reads as it did. -/
def digestTokensSpec : ChangeSpec := { name := "digestTokens", fn := fun _ => fun
  | [d1, d2, d3] => { results := [.lit (.bool true)], args := [d1, d2, d3] }
  | _ => none }
def digestTokensRow : OpenClaim := { program := "ytkdkpnidiehdfaadoor", sum := "4060646aedd963b28716d4773beb16e3c2208e056c8904c11e117a6f93e5d29b", func := "assize/assizelaw02.DigestTokens", spec := "digestTokens", named := ["assize/digest.k"], apart := false, laid := [("assize/digest.k", laid_assize_digest_k)] }
def DigestTokensSaid : Prop := digestTokensRow.holds Tryd.pinned (OpenSpec.ofChange digestTokensSpec)

/-- ITS FALSE NEIGHBOUR: 'it returns false'. Refute it at one input. -/
def digestTokensWrong : ChangeSpec := { name := "digestTokens", fn := fun _ => fun
  | [d1, d2, d3] => { results := [.lit (.bool false)], args := [d1, d2, d3] }
  | _ => none }
def DigestTokensWrongFalsely : Prop := digestTokensRow.holds Tryd.pinned (OpenSpec.ofChange digestTokensWrong)

/-- 'assizelaw02.DigestScript': WHATEVER THE INPUT: true; the input reads as it did. -/
def digestScriptSpec : ChangeSpec := { name := "digestScript", fn := fun _ => fun
  | [d] => { results := [.lit (.bool true)], args := [d] }
  | _ => none }
def digestScriptRow : OpenClaim := { program := "ytkdkpnidiehdfaadoor", sum := "4060646aedd963b28716d4773beb16e3c2208e056c8904c11e117a6f93e5d29b", func := "assize/assizelaw02.DigestScript", spec := "digestScript", named := ["assize/digest.k"], apart := false, laid := [("assize/digest.k", laid_assize_digest_k)] }
def DigestScriptSaid : Prop := digestScriptRow.holds Tryd.pinned (OpenSpec.ofChange digestScriptSpec)

/-- ITS FALSE NEIGHBOUR: 'it returns false'. Refute it at one input. -/
def digestScriptWrong : ChangeSpec := { name := "digestScript", fn := fun _ => fun
  | [d] => { results := [.lit (.bool false)], args := [d] }
  | _ => none }
def DigestScriptWrongFalsely : Prop := digestScriptRow.holds Tryd.pinned (OpenSpec.ofChange digestScriptWrong)

/-- 'assizelaw02.DigestTexts': WHATEVER THE INPUT: true; the input reads as it did. -/
def digestTextsSpec : ChangeSpec := { name := "digestTexts", fn := fun _ => fun
  | [d1, d2, d3] => { results := [.lit (.bool true)], args := [d1, d2, d3] }
  | _ => none }
def digestTextsRow : OpenClaim := { program := "ytkdkpnidiehdfaadoor", sum := "4060646aedd963b28716d4773beb16e3c2208e056c8904c11e117a6f93e5d29b", func := "assize/assizelaw02.DigestTexts", spec := "digestTexts", named := ["assize/digest.k"], apart := false, laid := [("assize/digest.k", laid_assize_digest_k)] }
def DigestTextsSaid : Prop := digestTextsRow.holds Tryd.pinned (OpenSpec.ofChange digestTextsSpec)

/-- ITS FALSE NEIGHBOUR: 'it returns false'. Refute it at one input. -/
def digestTextsWrong : ChangeSpec := { name := "digestTexts", fn := fun _ => fun
  | [d1, d2, d3] => { results := [.lit (.bool false)], args := [d1, d2, d3] }
  | _ => none }
def DigestTextsWrongFalsely : Prop := digestTextsRow.holds Tryd.pinned (OpenSpec.ofChange digestTextsWrong)

/-- 'assizelaw02.DigestPieces': WHATEVER THE INPUT: true; the input reads as it did. -/
def digestPiecesSpec : ChangeSpec := { name := "digestPieces", fn := fun _ => fun
  | [d1, d2] => { results := [.lit (.bool true)], args := [d1, d2] }
  | _ => none }
def digestPiecesRow : OpenClaim := { program := "ytkdkpnidiehdfaadoor", sum := "4060646aedd963b28716d4773beb16e3c2208e056c8904c11e117a6f93e5d29b", func := "assize/assizelaw02.DigestPieces", spec := "digestPieces", named := ["assize/digest.k"], apart := false, laid := [("assize/digest.k", laid_assize_digest_k)] }
def DigestPiecesSaid : Prop := digestPiecesRow.holds Tryd.pinned (OpenSpec.ofChange digestPiecesSpec)

/-- ITS FALSE NEIGHBOUR: 'it returns false'. Refute it at one input. -/
def digestPiecesWrong : ChangeSpec := { name := "digestPieces", fn := fun _ => fun
  | [d1, d2] => { results := [.lit (.bool false)], args := [d1, d2] }
  | _ => none }
def DigestPiecesWrongFalsely : Prop := digestPiecesRow.holds Tryd.pinned (OpenSpec.ofChange digestPiecesWrong)

/-- 'assizelaw02.DigestKnown': WHATEVER THE INPUT: true; the input reads as it did. -/
def digestKnownSpec : ChangeSpec := { name := "digestKnown", fn := fun _ => fun
  | [] => { results := [.lit (.bool true)], args := [] }
  | _ => none }
def digestKnownRow : OpenClaim := { program := "ytkdkpnidiehdfaadoor", sum := "4060646aedd963b28716d4773beb16e3c2208e056c8904c11e117a6f93e5d29b", func := "assize/assizelaw02.DigestKnown", spec := "digestKnown", named := ["assize/digest.k"], apart := false, laid := [("assize/digest.k", laid_assize_digest_k)] }
def DigestKnownSaid : Prop := digestKnownRow.holds Tryd.pinned (OpenSpec.ofChange digestKnownSpec)

/-- ITS FALSE NEIGHBOUR: 'it returns false'. Refute it at one input. -/
def digestKnownWrong : ChangeSpec := { name := "digestKnown", fn := fun _ => fun
  | [] => { results := [.lit (.bool false)], args := [] }
  | _ => none }
def DigestKnownWrongFalsely : Prop := digestKnownRow.holds Tryd.pinned (OpenSpec.ofChange digestKnownWrong)

/-- 'assizelaw24.TenantWalls': WHATEVER THE INPUT: true; the input reads as it did. -/
def tenantWallsSpec : ChangeSpec := { name := "tenantWalls", fn := fun _ => fun
  | [d] => { results := [.lit (.bool true)], args := [d] }
  | _ => none }
def tenantWallsRow : OpenClaim := { program := "ytkdkpnidiehdfaadoor", sum := "4060646aedd963b28716d4773beb16e3c2208e056c8904c11e117a6f93e5d29b", func := "assize/assizelaw24.TenantWalls", spec := "tenantWalls", unfollowed := true, recurses := true, named := ["assize/digest.k"], apart := false, laid := [("assize/digest.k", laid_assize_digest_k)] }
def TenantWallsSaid : Prop := tenantWallsRow.holds Tryd.pinned (OpenSpec.ofChange tenantWallsSpec)

/-- ITS FALSE NEIGHBOUR: 'it returns false'. Refute it at one input. -/
def tenantWallsWrong : ChangeSpec := { name := "tenantWalls", fn := fun _ => fun
  | [d] => { results := [.lit (.bool false)], args := [d] }
  | _ => none }
def TenantWallsWrongFalsely : Prop := tenantWallsRow.holds Tryd.pinned (OpenSpec.ofChange tenantWallsWrong)

/-- 'assizelaw24.TenantBinds': WHATEVER THE INPUT: true; the input reads as it did. -/
def tenantBindsSpec : ChangeSpec := { name := "tenantBinds", fn := fun _ => fun
  | [d1, d2, d3] => { results := [.lit (.bool true)], args := [d1, d2, d3] }
  | _ => none }
def tenantBindsRow : OpenClaim := { program := "ytkdkpnidiehdfaadoor", sum := "4060646aedd963b28716d4773beb16e3c2208e056c8904c11e117a6f93e5d29b", func := "assize/assizelaw24.TenantBinds", spec := "tenantBinds", unfollowed := true, recurses := true, named := ["assize/digest.k"], apart := false, laid := [("assize/digest.k", laid_assize_digest_k)] }
def TenantBindsSaid : Prop := tenantBindsRow.holds Tryd.pinned (OpenSpec.ofChange tenantBindsSpec)

/-- ITS FALSE NEIGHBOUR: 'it returns false'. Refute it at one input. -/
def tenantBindsWrong : ChangeSpec := { name := "tenantBinds", fn := fun _ => fun
  | [d1, d2, d3] => { results := [.lit (.bool false)], args := [d1, d2, d3] }
  | _ => none }
def TenantBindsWrongFalsely : Prop := tenantBindsRow.holds Tryd.pinned (OpenSpec.ofChange tenantBindsWrong)

/-- 'assizelaw24.TenantKnown': WHATEVER THE INPUT: true; the input reads as it did. -/
def tenantKnownSpec : ChangeSpec := { name := "tenantKnown", fn := fun _ => fun
  | [] => { results := [.lit (.bool true)], args := [] }
  | _ => none }
def tenantKnownRow : OpenClaim := { program := "ytkdkpnidiehdfaadoor", sum := "4060646aedd963b28716d4773beb16e3c2208e056c8904c11e117a6f93e5d29b", func := "assize/assizelaw24.TenantKnown", spec := "tenantKnown", unfollowed := true, recurses := true, named := ["assize/digest.k"], apart := false, laid := [("assize/digest.k", laid_assize_digest_k)] }
def TenantKnownSaid : Prop := tenantKnownRow.holds Tryd.pinned (OpenSpec.ofChange tenantKnownSpec)

/-- ITS FALSE NEIGHBOUR: 'it returns false'. Refute it at one input. -/
def tenantKnownWrong : ChangeSpec := { name := "tenantKnown", fn := fun _ => fun
  | [] => { results := [.lit (.bool false)], args := [] }
  | _ => none }
def TenantKnownWrongFalsely : Prop := tenantKnownRow.holds Tryd.pinned (OpenSpec.ofChange tenantKnownWrong)

/-- 'assizelaw24.TenantScript': WHATEVER THE INPUT: true; the input reads as it did. -/
def tenantScriptSpec : ChangeSpec := { name := "tenantScript", fn := fun _ => fun
  | [d1, d2, d3] => { results := [.lit (.bool true)], args := [d1, d2, d3] }
  | _ => none }
def tenantScriptRow : OpenClaim := { program := "ytkdkpnidiehdfaadoor", sum := "4060646aedd963b28716d4773beb16e3c2208e056c8904c11e117a6f93e5d29b", func := "assize/assizelaw24.TenantScript", spec := "tenantScript", unfollowed := true, recurses := true, named := ["assize/digest.k"], apart := false, laid := [("assize/digest.k", laid_assize_digest_k)] }
def TenantScriptSaid : Prop := tenantScriptRow.holds Tryd.pinned (OpenSpec.ofChange tenantScriptSpec)

/-- ITS FALSE NEIGHBOUR: 'it returns false'. Refute it at one input. -/
def tenantScriptWrong : ChangeSpec := { name := "tenantScript", fn := fun _ => fun
  | [d1, d2, d3] => { results := [.lit (.bool false)], args := [d1, d2, d3] }
  | _ => none }
def TenantScriptWrongFalsely : Prop := tenantScriptRow.holds Tryd.pinned (OpenSpec.ofChange tenantScriptWrong)

/-- 'assizelaw24.TenantNone': WHATEVER THE INPUT: true; the input reads as it did. -/
def tenantNoneSpec : ChangeSpec := { name := "tenantNone", fn := fun _ => fun
  | [d1, d2] => { results := [.lit (.bool true)], args := [d1, d2] }
  | _ => none }
def tenantNoneRow : OpenClaim := { program := "ytkdkpnidiehdfaadoor", sum := "4060646aedd963b28716d4773beb16e3c2208e056c8904c11e117a6f93e5d29b", func := "assize/assizelaw24.TenantNone", spec := "tenantNone", unfollowed := true, recurses := true, named := ["assize/digest.k"], apart := false, laid := [("assize/digest.k", laid_assize_digest_k)] }
def TenantNoneSaid : Prop := tenantNoneRow.holds Tryd.pinned (OpenSpec.ofChange tenantNoneSpec)

/-- ITS FALSE NEIGHBOUR: 'it returns false'. Refute it at one input. -/
def tenantNoneWrong : ChangeSpec := { name := "tenantNone", fn := fun _ => fun
  | [d1, d2] => { results := [.lit (.bool false)], args := [d1, d2] }
  | _ => none }
def TenantNoneWrongFalsely : Prop := tenantNoneRow.holds Tryd.pinned (OpenSpec.ofChange tenantNoneWrong)

/- THE SECOND FORM. 'bulk': how many values and letters a reading holds, each counted each time it is reached (what is shared counts as often as it is met; a slice's spare places count too). A statement '..UptoSaid' is the law's where the arguments, and the package variables that the reading takes, are together of bulk at most 1048576: NARROWER than '..Said'. Prove '..Said' where nothing that the law and all that it calls make is longer than what came in: it says more and counts as full. Else prove '..UptoSaid'. A law counts once. -/
mutual
def uptoBulk {H : Type} : DataW H → Nat
  | .lit (.string bytes) => bytes.length + 1
  | .lit _ => 1
  | .nil => 1
  | .ptr d => uptoBulk d + 1
  | .slice elems spare => uptoBulkAll elems + uptoBulkAll spare + 1
  | .agg parts => uptoBulkAll parts + 1
  | .iface _ d => uptoBulk d + 1
  | .map entries => uptoBulkEntries entries + 1
  | .held _ => 1
def uptoBulkAll {H : Type} : List (DataW H) → Nat
  | [] => 0
  | d :: r => uptoBulk d + uptoBulkAll r
def uptoBulkEntries {H : Type} : List (Lit × DataW H) → Nat
  | [] => 0
  | x :: r => uptoBulkEntry x + uptoBulkEntries r
def uptoBulkEntry {H : Type} : Lit × DataW H → Nat
  | (.string bytes, d) => bytes.length + uptoBulk d + 1
  | (_, d) => uptoBulk d + 1
 end
def uptoSmall : (H : Type) → List (DataW H) → Bool := fun _ ds => decide (uptoBulkAll ds ≤ 1048576)
def OpenSpec.upto (s : _root_.Go.ChangeSpec) : _root_.Go.OpenSpec := { _root_.Go.OpenSpec.ofChange s with cond := some uptoSmall }

/-- 'assizelaw02.DigestSums', WHERE WHAT IT READS IS OF BULK AT MOST 1048576: true; the input reads as it did. -/
def digestSumsUptoRow : OpenClaim := { program := "ytkdkpnidiehdfaadoor", sum := "4060646aedd963b28716d4773beb16e3c2208e056c8904c11e117a6f93e5d29b", func := "assize/assizelaw02.DigestSums", spec := "digestSums", named := ["assize/digest.k"], apart := false, laid := [("assize/digest.k", laid_assize_digest_k)], narrowed := true }
def DigestSumsUptoSaid : Prop := digestSumsUptoRow.holds Tryd.pinned (OpenSpec.upto digestSumsSpec)

/-- 'assizelaw02.DigestNil', WHERE WHAT IT READS IS OF BULK AT MOST 1048576: true; the input reads as it did. -/
def digestNilUptoRow : OpenClaim := { program := "ytkdkpnidiehdfaadoor", sum := "4060646aedd963b28716d4773beb16e3c2208e056c8904c11e117a6f93e5d29b", func := "assize/assizelaw02.DigestNil", spec := "digestNil", named := ["assize/digest.k"], apart := false, laid := [("assize/digest.k", laid_assize_digest_k)], narrowed := true }
def DigestNilUptoSaid : Prop := digestNilUptoRow.holds Tryd.pinned (OpenSpec.upto digestNilSpec)

/-- 'assizelaw02.DigestTokens', WHERE WHAT IT READS IS OF BULK AT MOST 1048576: true; the input reads as it did. -/
def digestTokensUptoRow : OpenClaim := { program := "ytkdkpnidiehdfaadoor", sum := "4060646aedd963b28716d4773beb16e3c2208e056c8904c11e117a6f93e5d29b", func := "assize/assizelaw02.DigestTokens", spec := "digestTokens", named := ["assize/digest.k"], apart := false, laid := [("assize/digest.k", laid_assize_digest_k)], narrowed := true }
def DigestTokensUptoSaid : Prop := digestTokensUptoRow.holds Tryd.pinned (OpenSpec.upto digestTokensSpec)

/-- 'assizelaw02.DigestScript', WHERE WHAT IT READS IS OF BULK AT MOST 1048576: true; the input reads as it did. -/
def digestScriptUptoRow : OpenClaim := { program := "ytkdkpnidiehdfaadoor", sum := "4060646aedd963b28716d4773beb16e3c2208e056c8904c11e117a6f93e5d29b", func := "assize/assizelaw02.DigestScript", spec := "digestScript", named := ["assize/digest.k"], apart := false, laid := [("assize/digest.k", laid_assize_digest_k)], narrowed := true }
def DigestScriptUptoSaid : Prop := digestScriptUptoRow.holds Tryd.pinned (OpenSpec.upto digestScriptSpec)

/-- 'assizelaw02.DigestTexts', WHERE WHAT IT READS IS OF BULK AT MOST 1048576: true; the input reads as it did. -/
def digestTextsUptoRow : OpenClaim := { program := "ytkdkpnidiehdfaadoor", sum := "4060646aedd963b28716d4773beb16e3c2208e056c8904c11e117a6f93e5d29b", func := "assize/assizelaw02.DigestTexts", spec := "digestTexts", named := ["assize/digest.k"], apart := false, laid := [("assize/digest.k", laid_assize_digest_k)], narrowed := true }
def DigestTextsUptoSaid : Prop := digestTextsUptoRow.holds Tryd.pinned (OpenSpec.upto digestTextsSpec)

/-- 'assizelaw02.DigestPieces', WHERE WHAT IT READS IS OF BULK AT MOST 1048576: true; the input reads as it did. -/
def digestPiecesUptoRow : OpenClaim := { program := "ytkdkpnidiehdfaadoor", sum := "4060646aedd963b28716d4773beb16e3c2208e056c8904c11e117a6f93e5d29b", func := "assize/assizelaw02.DigestPieces", spec := "digestPieces", named := ["assize/digest.k"], apart := false, laid := [("assize/digest.k", laid_assize_digest_k)], narrowed := true }
def DigestPiecesUptoSaid : Prop := digestPiecesUptoRow.holds Tryd.pinned (OpenSpec.upto digestPiecesSpec)

/-- 'assizelaw02.DigestKnown', WHERE WHAT IT READS IS OF BULK AT MOST 1048576: true; the input reads as it did. -/
def digestKnownUptoRow : OpenClaim := { program := "ytkdkpnidiehdfaadoor", sum := "4060646aedd963b28716d4773beb16e3c2208e056c8904c11e117a6f93e5d29b", func := "assize/assizelaw02.DigestKnown", spec := "digestKnown", named := ["assize/digest.k"], apart := false, laid := [("assize/digest.k", laid_assize_digest_k)], narrowed := true }
def DigestKnownUptoSaid : Prop := digestKnownUptoRow.holds Tryd.pinned (OpenSpec.upto digestKnownSpec)

/-- 'assizelaw24.TenantWalls', WHERE WHAT IT READS IS OF BULK AT MOST 1048576: true; the input reads as it did. -/
def tenantWallsUptoRow : OpenClaim := { program := "ytkdkpnidiehdfaadoor", sum := "4060646aedd963b28716d4773beb16e3c2208e056c8904c11e117a6f93e5d29b", func := "assize/assizelaw24.TenantWalls", spec := "tenantWalls", unfollowed := true, recurses := true, named := ["assize/digest.k"], apart := false, laid := [("assize/digest.k", laid_assize_digest_k)], narrowed := true }
def TenantWallsUptoSaid : Prop := tenantWallsUptoRow.holds Tryd.pinned (OpenSpec.upto tenantWallsSpec)

/-- 'assizelaw24.TenantBinds', WHERE WHAT IT READS IS OF BULK AT MOST 1048576: true; the input reads as it did. -/
def tenantBindsUptoRow : OpenClaim := { program := "ytkdkpnidiehdfaadoor", sum := "4060646aedd963b28716d4773beb16e3c2208e056c8904c11e117a6f93e5d29b", func := "assize/assizelaw24.TenantBinds", spec := "tenantBinds", unfollowed := true, recurses := true, named := ["assize/digest.k"], apart := false, laid := [("assize/digest.k", laid_assize_digest_k)], narrowed := true }
def TenantBindsUptoSaid : Prop := tenantBindsUptoRow.holds Tryd.pinned (OpenSpec.upto tenantBindsSpec)

/-- 'assizelaw24.TenantKnown', WHERE WHAT IT READS IS OF BULK AT MOST 1048576: true; the input reads as it did. -/
def tenantKnownUptoRow : OpenClaim := { program := "ytkdkpnidiehdfaadoor", sum := "4060646aedd963b28716d4773beb16e3c2208e056c8904c11e117a6f93e5d29b", func := "assize/assizelaw24.TenantKnown", spec := "tenantKnown", unfollowed := true, recurses := true, named := ["assize/digest.k"], apart := false, laid := [("assize/digest.k", laid_assize_digest_k)], narrowed := true }
def TenantKnownUptoSaid : Prop := tenantKnownUptoRow.holds Tryd.pinned (OpenSpec.upto tenantKnownSpec)

/-- 'assizelaw24.TenantScript', WHERE WHAT IT READS IS OF BULK AT MOST 1048576: true; the input reads as it did. -/
def tenantScriptUptoRow : OpenClaim := { program := "ytkdkpnidiehdfaadoor", sum := "4060646aedd963b28716d4773beb16e3c2208e056c8904c11e117a6f93e5d29b", func := "assize/assizelaw24.TenantScript", spec := "tenantScript", unfollowed := true, recurses := true, named := ["assize/digest.k"], apart := false, laid := [("assize/digest.k", laid_assize_digest_k)], narrowed := true }
def TenantScriptUptoSaid : Prop := tenantScriptUptoRow.holds Tryd.pinned (OpenSpec.upto tenantScriptSpec)

/-- 'assizelaw24.TenantNone', WHERE WHAT IT READS IS OF BULK AT MOST 1048576: true; the input reads as it did. -/
def tenantNoneUptoRow : OpenClaim := { program := "ytkdkpnidiehdfaadoor", sum := "4060646aedd963b28716d4773beb16e3c2208e056c8904c11e117a6f93e5d29b", func := "assize/assizelaw24.TenantNone", spec := "tenantNone", unfollowed := true, recurses := true, named := ["assize/digest.k"], apart := false, laid := [("assize/digest.k", laid_assize_digest_k)], narrowed := true }
def TenantNoneUptoSaid : Prop := tenantNoneUptoRow.holds Tryd.pinned (OpenSpec.upto tenantNoneSpec)

end Rows
end Go.Proofs.YtkdkpnidiehdfaaDoor
