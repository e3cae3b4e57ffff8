/-
  NARROWER THAN 'FOR EVERY INPUT', by the rows' own cells (each row's printed sentence says how): FnNodeWords: laid · FnCanonItems: laid · FnCanon: laid · FnBuildSegs: laid · FnExactBuildOne: loops, laid · FnCanonLeast: laid · FnBuild: laid · FnExactCanonPut: loops, laid · FnReadFar: laid · FnReadTwo: laid · FnBuildOne: laid · FnCanonPut: laid · FnExactSend: loops, laid.
  DERIVED. THE GIVEN ROWS OF THIS SEAT. 13 by the template 'for every input the law returns true; each argument reads behind the call as it read before'; 0 by the template 'total and deterministic' (their statements: YtaapkkeogajfpaaDoorTotals.lean).
  GIVEN WITH THE SEED: the statements are not yours to turn. If you find one false, say at which input.
  Laid BY PROGRAM, IN A SANDBOX (cutbox-rows.mjs): the forced cells as the released guide's own fill.sh prints them over the translation 7e7547319da45832… (all of the seat's roots in one cut). By AI agents, Wed Nov 11 2026. No macro, syntax, notation, axiom, sorry.
-/
import Derived.Test.YtaapkkeogajfpaaDoorChecked
import GoSem.PinnedTables
import GoSem.Claim
import GoSem.ClaimJoined
import GoSem.ClaimMapViews
import Derived.JoinedTies
import Derived.KernelRfl
namespace Go.Proofs.YtaapkkeogajfpaaDoor
/- THE CELL 'sum', in the pinned program and in every row, IS THE sha256 OF THE DUMP (.gsa) THAT YtaapkkeogajfpaaDoorProg.lean LOADS. Nothing in Lean hashes anything: it is a label: what it is worth is what the hold of that sum in a sandbox is worth. -/
noncomputable def Tryd.pinned : Pinned := { name := "ytaapkkeogajfpaadoor", sum := "7e7547319da45832f9642b00f403a73e0ead2d76265c90d93032cbed3f7f3e40", checked := Tryd.checked }
namespace Rows
def none {H : Type} : Left H := { results := [], args := [] }

/- WHAT THE LISTED PACKAGE-LEVEL VARIABLES READ AS WHEN THE CALL BEGINS. Each datum BY PROGRAM (the guide's laid-datum.mjs) off the statement by which the dump's own 'gosem.cut.vars' lays the variable. In a bare row this is a premise. The card (YtaapkkeogajfpaaDoorCards.lean) ties it to the program's text. -/
def laid_loop_example_quoin_impl_sizeBits {H : Type} : DataW H := .agg [.lit (.int .i64 0), .lit (.int .i64 1), .lit (.int .i64 8), .lit (.int .i64 16), .lit (.int .i64 32), .lit (.int .i64 64), .lit (.int .i64 64)]
def laid_unicode_utf8_acceptRanges {H : Type} : DataW H := .agg [.agg [.lit (.int .u8 128), .lit (.int .u8 191)], .agg [.lit (.int .u8 160), .lit (.int .u8 191)], .agg [.lit (.int .u8 128), .lit (.int .u8 159)], .agg [.lit (.int .u8 144), .lit (.int .u8 191)], .agg [.lit (.int .u8 128), .lit (.int .u8 143)], .agg [.lit (.int .u8 0), .lit (.int .u8 0)], .agg [.lit (.int .u8 0), .lit (.int .u8 0)], .agg [.lit (.int .u8 0), .lit (.int .u8 0)], .agg [.lit (.int .u8 0), .lit (.int .u8 0)], .agg [.lit (.int .u8 0), .lit (.int .u8 0)], .agg [.lit (.int .u8 0), .lit (.int .u8 0)], .agg [.lit (.int .u8 0), .lit (.int .u8 0)], .agg [.lit (.int .u8 0), .lit (.int .u8 0)], .agg [.lit (.int .u8 0), .lit (.int .u8 0)], .agg [.lit (.int .u8 0), .lit (.int .u8 0)], .agg [.lit (.int .u8 0), .lit (.int .u8 0)]]
/-- One of Go's own tables, pinned by name: the form's constant. -/
def laid_unicode_utf8_first : DataW Unit := Go.Pinned.utf8First

/-- 'laws.FnNodeWords': WHATEVER THE INPUT: true; the input reads as it did. -/
def fnNodeWordsSpec : ChangeSpec := { name := "fnNodeWords", vars := ["loop.example/quoin/impl.sizeBits"], fn := fun _ => fun
  | [d, g1] => { results := [.lit (.bool true)], args := [d], vars := [g1] }
  | _ => none }
def fnNodeWordsRow : OpenClaim := { program := "ytaapkkeogajfpaadoor", sum := "7e7547319da45832f9642b00f403a73e0ead2d76265c90d93032cbed3f7f3e40", func := "loop.example/quoin/laws.FnNodeWords", spec := "fnNodeWords", inPlace := ["internal/abi.NoEscape", "internal/bytealg.MakeNoZero"], unfollowed := true, recurses := true, named := ["loop.example/quoin/impl.sizeBits"], apart := false, laid := [("loop.example/quoin/impl.sizeBits", laid_loop_example_quoin_impl_sizeBits)] }
def FnNodeWordsSaid : Prop := fnNodeWordsRow.holds Tryd.pinned (OpenSpec.ofChange fnNodeWordsSpec)

/-- ITS FALSE NEIGHBOUR: 'it returns false'. Refute it at one input. -/
def fnNodeWordsWrong : ChangeSpec := { name := "fnNodeWords", vars := ["loop.example/quoin/impl.sizeBits"], fn := fun _ => fun
  | [d, g1] => { results := [.lit (.bool false)], args := [d], vars := [g1] }
  | _ => none }
def FnNodeWordsWrongFalsely : Prop := fnNodeWordsRow.holds Tryd.pinned (OpenSpec.ofChange fnNodeWordsWrong)

/-- 'laws.FnCanonItems': WHATEVER THE INPUT: true; the input reads as it did. -/
def fnCanonItemsSpec : ChangeSpec := { name := "fnCanonItems", vars := ["loop.example/quoin/impl.sizeBits"], fn := fun _ => fun
  | [d, g1] => { results := [.lit (.bool true)], args := [d], vars := [g1] }
  | _ => none }
def fnCanonItemsRow : OpenClaim := { program := "ytaapkkeogajfpaadoor", sum := "7e7547319da45832f9642b00f403a73e0ead2d76265c90d93032cbed3f7f3e40", func := "loop.example/quoin/laws.FnCanonItems", spec := "fnCanonItems", inPlace := ["internal/abi.NoEscape", "internal/bytealg.MakeNoZero"], unfollowed := true, recurses := true, named := ["loop.example/quoin/impl.sizeBits"], apart := false, laid := [("loop.example/quoin/impl.sizeBits", laid_loop_example_quoin_impl_sizeBits)] }
def FnCanonItemsSaid : Prop := fnCanonItemsRow.holds Tryd.pinned (OpenSpec.ofChange fnCanonItemsSpec)

/-- ITS FALSE NEIGHBOUR: 'it returns false'. Refute it at one input. -/
def fnCanonItemsWrong : ChangeSpec := { name := "fnCanonItems", vars := ["loop.example/quoin/impl.sizeBits"], fn := fun _ => fun
  | [d, g1] => { results := [.lit (.bool false)], args := [d], vars := [g1] }
  | _ => none }
def FnCanonItemsWrongFalsely : Prop := fnCanonItemsRow.holds Tryd.pinned (OpenSpec.ofChange fnCanonItemsWrong)

/-- 'laws.FnCanon': WHATEVER THE INPUT: true; the input reads as it did. -/
def fnCanonSpec : ChangeSpec := { name := "fnCanon", vars := ["loop.example/quoin/impl.sizeBits"], fn := fun _ => fun
  | [d, g1] => { results := [.lit (.bool true)], args := [d], vars := [g1] }
  | _ => none }
def fnCanonRow : OpenClaim := { program := "ytaapkkeogajfpaadoor", sum := "7e7547319da45832f9642b00f403a73e0ead2d76265c90d93032cbed3f7f3e40", func := "loop.example/quoin/laws.FnCanon", spec := "fnCanon", inPlace := ["internal/abi.NoEscape", "internal/bytealg.MakeNoZero"], unfollowed := true, recurses := true, named := ["loop.example/quoin/impl.sizeBits"], apart := false, laid := [("loop.example/quoin/impl.sizeBits", laid_loop_example_quoin_impl_sizeBits)] }
def FnCanonSaid : Prop := fnCanonRow.holds Tryd.pinned (OpenSpec.ofChange fnCanonSpec)

/-- ITS FALSE NEIGHBOUR: 'it returns false'. Refute it at one input. -/
def fnCanonWrong : ChangeSpec := { name := "fnCanon", vars := ["loop.example/quoin/impl.sizeBits"], fn := fun _ => fun
  | [d, g1] => { results := [.lit (.bool false)], args := [d], vars := [g1] }
  | _ => none }
def FnCanonWrongFalsely : Prop := fnCanonRow.holds Tryd.pinned (OpenSpec.ofChange fnCanonWrong)

/-- 'laws.FnBuildSegs': WHATEVER THE INPUT: true; the input reads as it did. -/
def fnBuildSegsSpec : ChangeSpec := { name := "fnBuildSegs", vars := ["loop.example/quoin/impl.sizeBits"], fn := fun _ => fun
  | [d, g1] => { results := [.lit (.bool true)], args := [d], vars := [g1] }
  | _ => none }
def fnBuildSegsRow : OpenClaim := { program := "ytaapkkeogajfpaadoor", sum := "7e7547319da45832f9642b00f403a73e0ead2d76265c90d93032cbed3f7f3e40", func := "loop.example/quoin/laws.FnBuildSegs", spec := "fnBuildSegs", unfollowed := true, recurses := true, named := ["loop.example/quoin/impl.sizeBits"], apart := false, laid := [("loop.example/quoin/impl.sizeBits", laid_loop_example_quoin_impl_sizeBits)] }
def FnBuildSegsSaid : Prop := fnBuildSegsRow.holds Tryd.pinned (OpenSpec.ofChange fnBuildSegsSpec)

/-- ITS FALSE NEIGHBOUR: 'it returns false'. Refute it at one input. -/
def fnBuildSegsWrong : ChangeSpec := { name := "fnBuildSegs", vars := ["loop.example/quoin/impl.sizeBits"], fn := fun _ => fun
  | [d, g1] => { results := [.lit (.bool false)], args := [d], vars := [g1] }
  | _ => none }
def FnBuildSegsWrongFalsely : Prop := fnBuildSegsRow.holds Tryd.pinned (OpenSpec.ofChange fnBuildSegsWrong)

/-- 'laws.FnExactBuildOne': WHATEVER THE INPUT: true; the input reads as it did. -/
def fnExactBuildOneSpec : ChangeSpec := { name := "fnExactBuildOne", vars := ["loop.example/quoin/impl.sizeBits"], fn := fun _ => fun
  | [d, g1] => { results := [.lit (.bool true)], args := [d], vars := [g1] }
  | _ => none }
def fnExactBuildOneRow : OpenClaim := { program := "ytaapkkeogajfpaadoor", sum := "7e7547319da45832f9642b00f403a73e0ead2d76265c90d93032cbed3f7f3e40", func := "loop.example/quoin/laws.FnExactBuildOne", spec := "fnExactBuildOne", inPlace := ["internal/abi.NoEscape", "internal/bytealg.MakeNoZero"], unfollowed := true, recurses := true, named := ["loop.example/quoin/impl.sizeBits"], loops := true, apart := false, laid := [("loop.example/quoin/impl.sizeBits", laid_loop_example_quoin_impl_sizeBits)] }
def FnExactBuildOneSaid : Prop := fnExactBuildOneRow.holds Tryd.pinned (OpenSpec.ofChange fnExactBuildOneSpec)

/-- ITS FALSE NEIGHBOUR: 'it returns false'. Refute it at one input. -/
def fnExactBuildOneWrong : ChangeSpec := { name := "fnExactBuildOne", vars := ["loop.example/quoin/impl.sizeBits"], fn := fun _ => fun
  | [d, g1] => { results := [.lit (.bool false)], args := [d], vars := [g1] }
  | _ => none }
def FnExactBuildOneWrongFalsely : Prop := fnExactBuildOneRow.holds Tryd.pinned (OpenSpec.ofChange fnExactBuildOneWrong)

/-- 'laws.FnCanonLeast': WHATEVER THE INPUT: true; the input reads as it did. -/
def fnCanonLeastSpec : ChangeSpec := { name := "fnCanonLeast", vars := ["loop.example/quoin/impl.sizeBits"], fn := fun _ => fun
  | [d, g1] => { results := [.lit (.bool true)], args := [d], vars := [g1] }
  | _ => none }
def fnCanonLeastRow : OpenClaim := { program := "ytaapkkeogajfpaadoor", sum := "7e7547319da45832f9642b00f403a73e0ead2d76265c90d93032cbed3f7f3e40", func := "loop.example/quoin/laws.FnCanonLeast", spec := "fnCanonLeast", inPlace := ["internal/abi.NoEscape", "internal/bytealg.MakeNoZero"], unfollowed := true, recurses := true, named := ["loop.example/quoin/impl.sizeBits"], apart := false, laid := [("loop.example/quoin/impl.sizeBits", laid_loop_example_quoin_impl_sizeBits)] }
def FnCanonLeastSaid : Prop := fnCanonLeastRow.holds Tryd.pinned (OpenSpec.ofChange fnCanonLeastSpec)

/-- ITS FALSE NEIGHBOUR: 'it returns false'. Refute it at one input. -/
def fnCanonLeastWrong : ChangeSpec := { name := "fnCanonLeast", vars := ["loop.example/quoin/impl.sizeBits"], fn := fun _ => fun
  | [d, g1] => { results := [.lit (.bool false)], args := [d], vars := [g1] }
  | _ => none }
def FnCanonLeastWrongFalsely : Prop := fnCanonLeastRow.holds Tryd.pinned (OpenSpec.ofChange fnCanonLeastWrong)

/-- 'laws.FnBuild': WHATEVER THE INPUT: true; the input reads as it did. -/
def fnBuildSpec : ChangeSpec := { name := "fnBuild", vars := ["loop.example/quoin/impl.sizeBits"], fn := fun _ => fun
  | [d, g1] => { results := [.lit (.bool true)], args := [d], vars := [g1] }
  | _ => none }
def fnBuildRow : OpenClaim := { program := "ytaapkkeogajfpaadoor", sum := "7e7547319da45832f9642b00f403a73e0ead2d76265c90d93032cbed3f7f3e40", func := "loop.example/quoin/laws.FnBuild", spec := "fnBuild", unfollowed := true, recurses := true, named := ["loop.example/quoin/impl.sizeBits"], apart := false, laid := [("loop.example/quoin/impl.sizeBits", laid_loop_example_quoin_impl_sizeBits)] }
def FnBuildSaid : Prop := fnBuildRow.holds Tryd.pinned (OpenSpec.ofChange fnBuildSpec)

/-- ITS FALSE NEIGHBOUR: 'it returns false'. Refute it at one input. -/
def fnBuildWrong : ChangeSpec := { name := "fnBuild", vars := ["loop.example/quoin/impl.sizeBits"], fn := fun _ => fun
  | [d, g1] => { results := [.lit (.bool false)], args := [d], vars := [g1] }
  | _ => none }
def FnBuildWrongFalsely : Prop := fnBuildRow.holds Tryd.pinned (OpenSpec.ofChange fnBuildWrong)

/-- 'laws.FnExactCanonPut': WHATEVER THE INPUT: true; the input reads as it did. -/
def fnExactCanonPutSpec : ChangeSpec := { name := "fnExactCanonPut", vars := ["loop.example/quoin/impl.sizeBits"], fn := fun _ => fun
  | [d, g1] => { results := [.lit (.bool true)], args := [d], vars := [g1] }
  | _ => none }
def fnExactCanonPutRow : OpenClaim := { program := "ytaapkkeogajfpaadoor", sum := "7e7547319da45832f9642b00f403a73e0ead2d76265c90d93032cbed3f7f3e40", func := "loop.example/quoin/laws.FnExactCanonPut", spec := "fnExactCanonPut", inPlace := ["internal/abi.NoEscape", "internal/bytealg.MakeNoZero"], unfollowed := true, recurses := true, named := ["loop.example/quoin/impl.sizeBits"], loops := true, apart := false, laid := [("loop.example/quoin/impl.sizeBits", laid_loop_example_quoin_impl_sizeBits)] }
def FnExactCanonPutSaid : Prop := fnExactCanonPutRow.holds Tryd.pinned (OpenSpec.ofChange fnExactCanonPutSpec)

/-- ITS FALSE NEIGHBOUR: 'it returns false'. Refute it at one input. -/
def fnExactCanonPutWrong : ChangeSpec := { name := "fnExactCanonPut", vars := ["loop.example/quoin/impl.sizeBits"], fn := fun _ => fun
  | [d, g1] => { results := [.lit (.bool false)], args := [d], vars := [g1] }
  | _ => none }
def FnExactCanonPutWrongFalsely : Prop := fnExactCanonPutRow.holds Tryd.pinned (OpenSpec.ofChange fnExactCanonPutWrong)

/-- 'laws.FnReadFar': WHATEVER THE INPUT: true; the input reads as it did. -/
def fnReadFarSpec : ChangeSpec := { name := "fnReadFar", vars := ["loop.example/quoin/impl.sizeBits"], fn := fun _ => fun
  | [d, g1] => { results := [.lit (.bool true)], args := [d], vars := [g1] }
  | _ => none }
def fnReadFarRow : OpenClaim := { program := "ytaapkkeogajfpaadoor", sum := "7e7547319da45832f9642b00f403a73e0ead2d76265c90d93032cbed3f7f3e40", func := "loop.example/quoin/laws.FnReadFar", spec := "fnReadFar", inPlace := ["internal/abi.NoEscape", "internal/bytealg.MakeNoZero"], unfollowed := true, recurses := true, named := ["loop.example/quoin/impl.sizeBits"], apart := false, laid := [("loop.example/quoin/impl.sizeBits", laid_loop_example_quoin_impl_sizeBits)] }
def FnReadFarSaid : Prop := fnReadFarRow.holds Tryd.pinned (OpenSpec.ofChange fnReadFarSpec)

/-- ITS FALSE NEIGHBOUR: 'it returns false'. Refute it at one input. -/
def fnReadFarWrong : ChangeSpec := { name := "fnReadFar", vars := ["loop.example/quoin/impl.sizeBits"], fn := fun _ => fun
  | [d, g1] => { results := [.lit (.bool false)], args := [d], vars := [g1] }
  | _ => none }
def FnReadFarWrongFalsely : Prop := fnReadFarRow.holds Tryd.pinned (OpenSpec.ofChange fnReadFarWrong)

/-- 'laws.FnReadTwo': WHATEVER THE INPUT: true; the input reads as it did. -/
def fnReadTwoSpec : ChangeSpec := { name := "fnReadTwo", vars := ["loop.example/quoin/impl.sizeBits"], fn := fun _ => fun
  | [d, g1] => { results := [.lit (.bool true)], args := [d], vars := [g1] }
  | _ => none }
def fnReadTwoRow : OpenClaim := { program := "ytaapkkeogajfpaadoor", sum := "7e7547319da45832f9642b00f403a73e0ead2d76265c90d93032cbed3f7f3e40", func := "loop.example/quoin/laws.FnReadTwo", spec := "fnReadTwo", inPlace := ["internal/abi.NoEscape", "internal/bytealg.MakeNoZero"], unfollowed := true, recurses := true, named := ["loop.example/quoin/impl.sizeBits"], apart := false, laid := [("loop.example/quoin/impl.sizeBits", laid_loop_example_quoin_impl_sizeBits)] }
def FnReadTwoSaid : Prop := fnReadTwoRow.holds Tryd.pinned (OpenSpec.ofChange fnReadTwoSpec)

/-- ITS FALSE NEIGHBOUR: 'it returns false'. Refute it at one input. -/
def fnReadTwoWrong : ChangeSpec := { name := "fnReadTwo", vars := ["loop.example/quoin/impl.sizeBits"], fn := fun _ => fun
  | [d, g1] => { results := [.lit (.bool false)], args := [d], vars := [g1] }
  | _ => none }
def FnReadTwoWrongFalsely : Prop := fnReadTwoRow.holds Tryd.pinned (OpenSpec.ofChange fnReadTwoWrong)

/-- 'laws.FnBuildOne': WHATEVER THE INPUT: true; the input reads as it did. -/
def fnBuildOneSpec : ChangeSpec := { name := "fnBuildOne", vars := ["loop.example/quoin/impl.sizeBits"], fn := fun _ => fun
  | [d, g1] => { results := [.lit (.bool true)], args := [d], vars := [g1] }
  | _ => none }
def fnBuildOneRow : OpenClaim := { program := "ytaapkkeogajfpaadoor", sum := "7e7547319da45832f9642b00f403a73e0ead2d76265c90d93032cbed3f7f3e40", func := "loop.example/quoin/laws.FnBuildOne", spec := "fnBuildOne", inPlace := ["internal/abi.NoEscape", "internal/bytealg.MakeNoZero"], unfollowed := true, recurses := true, named := ["loop.example/quoin/impl.sizeBits"], apart := false, laid := [("loop.example/quoin/impl.sizeBits", laid_loop_example_quoin_impl_sizeBits)] }
def FnBuildOneSaid : Prop := fnBuildOneRow.holds Tryd.pinned (OpenSpec.ofChange fnBuildOneSpec)

/-- ITS FALSE NEIGHBOUR: 'it returns false'. Refute it at one input. -/
def fnBuildOneWrong : ChangeSpec := { name := "fnBuildOne", vars := ["loop.example/quoin/impl.sizeBits"], fn := fun _ => fun
  | [d, g1] => { results := [.lit (.bool false)], args := [d], vars := [g1] }
  | _ => none }
def FnBuildOneWrongFalsely : Prop := fnBuildOneRow.holds Tryd.pinned (OpenSpec.ofChange fnBuildOneWrong)

/-- 'laws.FnCanonPut': WHATEVER THE INPUT: true; the input reads as it did. -/
def fnCanonPutSpec : ChangeSpec := { name := "fnCanonPut", vars := ["loop.example/quoin/impl.sizeBits"], fn := fun _ => fun
  | [d, g1] => { results := [.lit (.bool true)], args := [d], vars := [g1] }
  | _ => none }
def fnCanonPutRow : OpenClaim := { program := "ytaapkkeogajfpaadoor", sum := "7e7547319da45832f9642b00f403a73e0ead2d76265c90d93032cbed3f7f3e40", func := "loop.example/quoin/laws.FnCanonPut", spec := "fnCanonPut", inPlace := ["internal/abi.NoEscape", "internal/bytealg.MakeNoZero"], unfollowed := true, recurses := true, named := ["loop.example/quoin/impl.sizeBits"], apart := false, laid := [("loop.example/quoin/impl.sizeBits", laid_loop_example_quoin_impl_sizeBits)] }
def FnCanonPutSaid : Prop := fnCanonPutRow.holds Tryd.pinned (OpenSpec.ofChange fnCanonPutSpec)

/-- ITS FALSE NEIGHBOUR: 'it returns false'. Refute it at one input. -/
def fnCanonPutWrong : ChangeSpec := { name := "fnCanonPut", vars := ["loop.example/quoin/impl.sizeBits"], fn := fun _ => fun
  | [d, g1] => { results := [.lit (.bool false)], args := [d], vars := [g1] }
  | _ => none }
def FnCanonPutWrongFalsely : Prop := fnCanonPutRow.holds Tryd.pinned (OpenSpec.ofChange fnCanonPutWrong)

/-- 'laws.FnExactSend': WHATEVER THE INPUT: true; the input reads as it did. -/
def fnExactSendSpec : ChangeSpec := { name := "fnExactSend", vars := ["loop.example/quoin/impl.sizeBits"], fn := fun _ => fun
  | [d1, d2, g1] => { results := [.lit (.bool true)], args := [d1, d2], vars := [g1] }
  | _ => none }
def fnExactSendRow : OpenClaim := { program := "ytaapkkeogajfpaadoor", sum := "7e7547319da45832f9642b00f403a73e0ead2d76265c90d93032cbed3f7f3e40", func := "loop.example/quoin/laws.FnExactSend", spec := "fnExactSend", inPlace := ["internal/abi.NoEscape", "internal/bytealg.CountString", "internal/bytealg.IndexByteString", "internal/bytealg.IndexString", "internal/bytealg.MakeNoZero"], unfollowed := true, recurses := true, named := ["loop.example/quoin/impl.sizeBits", "internal/bytealg.MaxLen", "unicode/utf8.first", "unicode/utf8.acceptRanges"], loops := true, apart := false, laid := [("unicode/utf8.acceptRanges", laid_unicode_utf8_acceptRanges), ("loop.example/quoin/impl.sizeBits", laid_loop_example_quoin_impl_sizeBits), ("unicode/utf8.first", laid_unicode_utf8_first)] }
def FnExactSendSaid : Prop := fnExactSendRow.holds Tryd.pinned (OpenSpec.ofChange fnExactSendSpec)

/-- ITS FALSE NEIGHBOUR: 'it returns false'. Refute it at one input. -/
def fnExactSendWrong : ChangeSpec := { name := "fnExactSend", vars := ["loop.example/quoin/impl.sizeBits"], fn := fun _ => fun
  | [d1, d2, g1] => { results := [.lit (.bool false)], args := [d1, d2], vars := [g1] }
  | _ => none }
def FnExactSendWrongFalsely : Prop := fnExactSendRow.holds Tryd.pinned (OpenSpec.ofChange fnExactSendWrong)

/- THE SECOND FORM. 'bulk': how many values and letters a reading holds, each counted each time it is reached (what is shared counts as often as it is met; a slice's spare places count too). A statement '..UptoSaid' is the law's where the arguments, and the package variables that the reading takes, are together of bulk at most 1048576: NARROWER than '..Said'. Prove '..Said' where nothing that the law and all that it calls make is longer than what came in: it says more and counts as full. Else prove '..UptoSaid'. A law counts once. -/
mutual
def uptoBulk {H : Type} : DataW H → Nat
  | .lit (.string bytes) => bytes.length + 1
  | .lit _ => 1
  | .nil => 1
  | .ptr d => uptoBulk d + 1
  | .slice elems spare => uptoBulkAll elems + uptoBulkAll spare + 1
  | .agg parts => uptoBulkAll parts + 1
  | .iface _ d => uptoBulk d + 1
  | .map entries => uptoBulkEntries entries + 1
  | .held _ => 1
def uptoBulkAll {H : Type} : List (DataW H) → Nat
  | [] => 0
  | d :: r => uptoBulk d + uptoBulkAll r
def uptoBulkEntries {H : Type} : List (Lit × DataW H) → Nat
  | [] => 0
  | x :: r => uptoBulkEntry x + uptoBulkEntries r
def uptoBulkEntry {H : Type} : Lit × DataW H → Nat
  | (.string bytes, d) => bytes.length + uptoBulk d + 1
  | (_, d) => uptoBulk d + 1
 end
def uptoSmall : (H : Type) → List (DataW H) → Bool := fun _ ds => decide (uptoBulkAll ds ≤ 1048576)
def OpenSpec.upto (s : _root_.Go.ChangeSpec) : _root_.Go.OpenSpec := { _root_.Go.OpenSpec.ofChange s with cond := some uptoSmall }

/-- 'laws.FnNodeWords', WHERE WHAT IT READS IS OF BULK AT MOST 1048576: true; the input reads as it did. -/
def fnNodeWordsUptoRow : OpenClaim := { program := "ytaapkkeogajfpaadoor", sum := "7e7547319da45832f9642b00f403a73e0ead2d76265c90d93032cbed3f7f3e40", func := "loop.example/quoin/laws.FnNodeWords", spec := "fnNodeWords", inPlace := ["internal/abi.NoEscape", "internal/bytealg.MakeNoZero"], unfollowed := true, recurses := true, named := ["loop.example/quoin/impl.sizeBits"], apart := false, laid := [("loop.example/quoin/impl.sizeBits", laid_loop_example_quoin_impl_sizeBits)], narrowed := true }
def FnNodeWordsUptoSaid : Prop := fnNodeWordsUptoRow.holds Tryd.pinned (OpenSpec.upto fnNodeWordsSpec)

/-- 'laws.FnCanonItems', WHERE WHAT IT READS IS OF BULK AT MOST 1048576: true; the input reads as it did. -/
def fnCanonItemsUptoRow : OpenClaim := { program := "ytaapkkeogajfpaadoor", sum := "7e7547319da45832f9642b00f403a73e0ead2d76265c90d93032cbed3f7f3e40", func := "loop.example/quoin/laws.FnCanonItems", spec := "fnCanonItems", inPlace := ["internal/abi.NoEscape", "internal/bytealg.MakeNoZero"], unfollowed := true, recurses := true, named := ["loop.example/quoin/impl.sizeBits"], apart := false, laid := [("loop.example/quoin/impl.sizeBits", laid_loop_example_quoin_impl_sizeBits)], narrowed := true }
def FnCanonItemsUptoSaid : Prop := fnCanonItemsUptoRow.holds Tryd.pinned (OpenSpec.upto fnCanonItemsSpec)

/-- 'laws.FnCanon', WHERE WHAT IT READS IS OF BULK AT MOST 1048576: true; the input reads as it did. -/
def fnCanonUptoRow : OpenClaim := { program := "ytaapkkeogajfpaadoor", sum := "7e7547319da45832f9642b00f403a73e0ead2d76265c90d93032cbed3f7f3e40", func := "loop.example/quoin/laws.FnCanon", spec := "fnCanon", inPlace := ["internal/abi.NoEscape", "internal/bytealg.MakeNoZero"], unfollowed := true, recurses := true, named := ["loop.example/quoin/impl.sizeBits"], apart := false, laid := [("loop.example/quoin/impl.sizeBits", laid_loop_example_quoin_impl_sizeBits)], narrowed := true }
def FnCanonUptoSaid : Prop := fnCanonUptoRow.holds Tryd.pinned (OpenSpec.upto fnCanonSpec)

/-- 'laws.FnBuildSegs', WHERE WHAT IT READS IS OF BULK AT MOST 1048576: true; the input reads as it did. -/
def fnBuildSegsUptoRow : OpenClaim := { program := "ytaapkkeogajfpaadoor", sum := "7e7547319da45832f9642b00f403a73e0ead2d76265c90d93032cbed3f7f3e40", func := "loop.example/quoin/laws.FnBuildSegs", spec := "fnBuildSegs", unfollowed := true, recurses := true, named := ["loop.example/quoin/impl.sizeBits"], apart := false, laid := [("loop.example/quoin/impl.sizeBits", laid_loop_example_quoin_impl_sizeBits)], narrowed := true }
def FnBuildSegsUptoSaid : Prop := fnBuildSegsUptoRow.holds Tryd.pinned (OpenSpec.upto fnBuildSegsSpec)

/-- 'laws.FnExactBuildOne', WHERE WHAT IT READS IS OF BULK AT MOST 1048576: true; the input reads as it did. -/
def fnExactBuildOneUptoRow : OpenClaim := { program := "ytaapkkeogajfpaadoor", sum := "7e7547319da45832f9642b00f403a73e0ead2d76265c90d93032cbed3f7f3e40", func := "loop.example/quoin/laws.FnExactBuildOne", spec := "fnExactBuildOne", inPlace := ["internal/abi.NoEscape", "internal/bytealg.MakeNoZero"], unfollowed := true, recurses := true, named := ["loop.example/quoin/impl.sizeBits"], loops := true, apart := false, laid := [("loop.example/quoin/impl.sizeBits", laid_loop_example_quoin_impl_sizeBits)], narrowed := true }
def FnExactBuildOneUptoSaid : Prop := fnExactBuildOneUptoRow.holds Tryd.pinned (OpenSpec.upto fnExactBuildOneSpec)

/-- 'laws.FnCanonLeast', WHERE WHAT IT READS IS OF BULK AT MOST 1048576: true; the input reads as it did. -/
def fnCanonLeastUptoRow : OpenClaim := { program := "ytaapkkeogajfpaadoor", sum := "7e7547319da45832f9642b00f403a73e0ead2d76265c90d93032cbed3f7f3e40", func := "loop.example/quoin/laws.FnCanonLeast", spec := "fnCanonLeast", inPlace := ["internal/abi.NoEscape", "internal/bytealg.MakeNoZero"], unfollowed := true, recurses := true, named := ["loop.example/quoin/impl.sizeBits"], apart := false, laid := [("loop.example/quoin/impl.sizeBits", laid_loop_example_quoin_impl_sizeBits)], narrowed := true }
def FnCanonLeastUptoSaid : Prop := fnCanonLeastUptoRow.holds Tryd.pinned (OpenSpec.upto fnCanonLeastSpec)

/-- 'laws.FnBuild', WHERE WHAT IT READS IS OF BULK AT MOST 1048576: true; the input reads as it did. -/
def fnBuildUptoRow : OpenClaim := { program := "ytaapkkeogajfpaadoor", sum := "7e7547319da45832f9642b00f403a73e0ead2d76265c90d93032cbed3f7f3e40", func := "loop.example/quoin/laws.FnBuild", spec := "fnBuild", unfollowed := true, recurses := true, named := ["loop.example/quoin/impl.sizeBits"], apart := false, laid := [("loop.example/quoin/impl.sizeBits", laid_loop_example_quoin_impl_sizeBits)], narrowed := true }
def FnBuildUptoSaid : Prop := fnBuildUptoRow.holds Tryd.pinned (OpenSpec.upto fnBuildSpec)

/-- 'laws.FnExactCanonPut', WHERE WHAT IT READS IS OF BULK AT MOST 1048576: true; the input reads as it did. -/
def fnExactCanonPutUptoRow : OpenClaim := { program := "ytaapkkeogajfpaadoor", sum := "7e7547319da45832f9642b00f403a73e0ead2d76265c90d93032cbed3f7f3e40", func := "loop.example/quoin/laws.FnExactCanonPut", spec := "fnExactCanonPut", inPlace := ["internal/abi.NoEscape", "internal/bytealg.MakeNoZero"], unfollowed := true, recurses := true, named := ["loop.example/quoin/impl.sizeBits"], loops := true, apart := false, laid := [("loop.example/quoin/impl.sizeBits", laid_loop_example_quoin_impl_sizeBits)], narrowed := true }
def FnExactCanonPutUptoSaid : Prop := fnExactCanonPutUptoRow.holds Tryd.pinned (OpenSpec.upto fnExactCanonPutSpec)

/-- 'laws.FnReadFar', WHERE WHAT IT READS IS OF BULK AT MOST 1048576: true; the input reads as it did. -/
def fnReadFarUptoRow : OpenClaim := { program := "ytaapkkeogajfpaadoor", sum := "7e7547319da45832f9642b00f403a73e0ead2d76265c90d93032cbed3f7f3e40", func := "loop.example/quoin/laws.FnReadFar", spec := "fnReadFar", inPlace := ["internal/abi.NoEscape", "internal/bytealg.MakeNoZero"], unfollowed := true, recurses := true, named := ["loop.example/quoin/impl.sizeBits"], apart := false, laid := [("loop.example/quoin/impl.sizeBits", laid_loop_example_quoin_impl_sizeBits)], narrowed := true }
def FnReadFarUptoSaid : Prop := fnReadFarUptoRow.holds Tryd.pinned (OpenSpec.upto fnReadFarSpec)

/-- 'laws.FnReadTwo', WHERE WHAT IT READS IS OF BULK AT MOST 1048576: true; the input reads as it did. -/
def fnReadTwoUptoRow : OpenClaim := { program := "ytaapkkeogajfpaadoor", sum := "7e7547319da45832f9642b00f403a73e0ead2d76265c90d93032cbed3f7f3e40", func := "loop.example/quoin/laws.FnReadTwo", spec := "fnReadTwo", inPlace := ["internal/abi.NoEscape", "internal/bytealg.MakeNoZero"], unfollowed := true, recurses := true, named := ["loop.example/quoin/impl.sizeBits"], apart := false, laid := [("loop.example/quoin/impl.sizeBits", laid_loop_example_quoin_impl_sizeBits)], narrowed := true }
def FnReadTwoUptoSaid : Prop := fnReadTwoUptoRow.holds Tryd.pinned (OpenSpec.upto fnReadTwoSpec)

/-- 'laws.FnBuildOne', WHERE WHAT IT READS IS OF BULK AT MOST 1048576: true; the input reads as it did. -/
def fnBuildOneUptoRow : OpenClaim := { program := "ytaapkkeogajfpaadoor", sum := "7e7547319da45832f9642b00f403a73e0ead2d76265c90d93032cbed3f7f3e40", func := "loop.example/quoin/laws.FnBuildOne", spec := "fnBuildOne", inPlace := ["internal/abi.NoEscape", "internal/bytealg.MakeNoZero"], unfollowed := true, recurses := true, named := ["loop.example/quoin/impl.sizeBits"], apart := false, laid := [("loop.example/quoin/impl.sizeBits", laid_loop_example_quoin_impl_sizeBits)], narrowed := true }
def FnBuildOneUptoSaid : Prop := fnBuildOneUptoRow.holds Tryd.pinned (OpenSpec.upto fnBuildOneSpec)

/-- 'laws.FnCanonPut', WHERE WHAT IT READS IS OF BULK AT MOST 1048576: true; the input reads as it did. -/
def fnCanonPutUptoRow : OpenClaim := { program := "ytaapkkeogajfpaadoor", sum := "7e7547319da45832f9642b00f403a73e0ead2d76265c90d93032cbed3f7f3e40", func := "loop.example/quoin/laws.FnCanonPut", spec := "fnCanonPut", inPlace := ["internal/abi.NoEscape", "internal/bytealg.MakeNoZero"], unfollowed := true, recurses := true, named := ["loop.example/quoin/impl.sizeBits"], apart := false, laid := [("loop.example/quoin/impl.sizeBits", laid_loop_example_quoin_impl_sizeBits)], narrowed := true }
def FnCanonPutUptoSaid : Prop := fnCanonPutUptoRow.holds Tryd.pinned (OpenSpec.upto fnCanonPutSpec)

/-- 'laws.FnExactSend', WHERE WHAT IT READS IS OF BULK AT MOST 1048576: true; the input reads as it did. -/
def fnExactSendUptoRow : OpenClaim := { program := "ytaapkkeogajfpaadoor", sum := "7e7547319da45832f9642b00f403a73e0ead2d76265c90d93032cbed3f7f3e40", func := "loop.example/quoin/laws.FnExactSend", spec := "fnExactSend", inPlace := ["internal/abi.NoEscape", "internal/bytealg.CountString", "internal/bytealg.IndexByteString", "internal/bytealg.IndexString", "internal/bytealg.MakeNoZero"], unfollowed := true, recurses := true, named := ["loop.example/quoin/impl.sizeBits", "internal/bytealg.MaxLen", "unicode/utf8.first", "unicode/utf8.acceptRanges"], loops := true, apart := false, laid := [("unicode/utf8.acceptRanges", laid_unicode_utf8_acceptRanges), ("loop.example/quoin/impl.sizeBits", laid_loop_example_quoin_impl_sizeBits), ("unicode/utf8.first", laid_unicode_utf8_first)], narrowed := true }
def FnExactSendUptoSaid : Prop := fnExactSendUptoRow.holds Tryd.pinned (OpenSpec.upto fnExactSendSpec)

end Rows
end Go.Proofs.YtaapkkeogajfpaaDoor
