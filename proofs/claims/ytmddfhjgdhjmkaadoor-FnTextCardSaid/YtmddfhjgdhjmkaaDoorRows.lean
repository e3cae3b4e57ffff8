/-
  NARROWER THAN 'FOR EVERY INPUT', by the rows' own cells (each row's printed sentence says how): FnExactNodeOk: loops, laid · FnExactNodeWords: loops, laid · FnNodeOk: laid · FnExactReadCost: loops, laid · FnReadCost: laid · FnExactTextOf: loops, laid · FnTextAlike: laid · FnText: laid · FnExactAlike: loops, laid · FnNodeWords: laid.
  DERIVED. THE GIVEN ROWS OF THIS SEAT. 10 by the template 'for every input the law returns true; each argument reads behind the call as it read before'; 0 by the template 'total and deterministic' (their statements: YtmddfhjgdhjmkaaDoorTotals.lean).
  GIVEN WITH THE SEED: the statements are not yours to turn. If you find one false, say at which input.
  Laid BY PROGRAM, IN A SANDBOX (cutbox-rows.mjs): the forced cells as the released guide's own fill.sh prints them over the translation 35d0080d64094b55… (all of the seat's roots in one cut). By AI agents, Wed Nov 11 2026. No macro, syntax, notation, axiom, sorry.
-/
import Derived.Test.YtmddfhjgdhjmkaaDoorChecked
import GoSem.Claim
import GoSem.ClaimJoined
import GoSem.ClaimMapViews
import Derived.JoinedTies
import Derived.KernelRfl
namespace Go.Proofs.YtmddfhjgdhjmkaaDoor
/- THE CELL 'sum', in the pinned program and in every row, IS THE sha256 OF THE DUMP (.gsa) THAT YtmddfhjgdhjmkaaDoorProg.lean LOADS. Nothing in Lean hashes anything: it is a label: what it is worth is what the hold of that sum in a sandbox is worth. -/
noncomputable def Tryd.pinned : Pinned := { name := "ytmddfhjgdhjmkaadoor", sum := "35d0080d64094b55b14e9d0745b28aa7f4f471a56d45f542eefec6477b961def", checked := Tryd.checked }
namespace Rows
def none {H : Type} : Left H := { results := [], args := [] }

/- WHAT THE LISTED PACKAGE-LEVEL VARIABLES READ AS WHEN THE CALL BEGINS. Each datum BY PROGRAM (the guide's laid-datum.mjs) off the statement by which the dump's own 'gosem.cut.vars' lays the variable. In a bare row this is a premise. The card (YtmddfhjgdhjmkaaDoorCards.lean) ties it to the program's text. -/
def laid_loop_example_quoin_impl_sizeBits {H : Type} : DataW H := .agg [.lit (.int .i64 0), .lit (.int .i64 1), .lit (.int .i64 8), .lit (.int .i64 16), .lit (.int .i64 32), .lit (.int .i64 64), .lit (.int .i64 64)]

/-- 'laws.FnExactNodeOk': WHATEVER THE INPUT: true; the input reads as it did. -/
def fnExactNodeOkSpec : ChangeSpec := { name := "fnExactNodeOk", vars := ["loop.example/quoin/impl.sizeBits"], fn := fun _ => fun
  | [d, g1] => { results := [.lit (.bool true)], args := [d], vars := [g1] }
  | _ => none }
def fnExactNodeOkRow : OpenClaim := { program := "ytmddfhjgdhjmkaadoor", sum := "35d0080d64094b55b14e9d0745b28aa7f4f471a56d45f542eefec6477b961def", func := "loop.example/quoin/laws.FnExactNodeOk", spec := "fnExactNodeOk", unfollowed := true, recurses := true, named := ["loop.example/quoin/impl.sizeBits"], loops := true, apart := false, laid := [("loop.example/quoin/impl.sizeBits", laid_loop_example_quoin_impl_sizeBits)] }
def FnExactNodeOkSaid : Prop := fnExactNodeOkRow.holds Tryd.pinned (OpenSpec.ofChange fnExactNodeOkSpec)

/-- ITS FALSE NEIGHBOUR: 'it returns false'. Refute it at one input. -/
def fnExactNodeOkWrong : ChangeSpec := { name := "fnExactNodeOk", vars := ["loop.example/quoin/impl.sizeBits"], fn := fun _ => fun
  | [d, g1] => { results := [.lit (.bool false)], args := [d], vars := [g1] }
  | _ => none }
def FnExactNodeOkWrongFalsely : Prop := fnExactNodeOkRow.holds Tryd.pinned (OpenSpec.ofChange fnExactNodeOkWrong)

/-- 'laws.FnExactNodeWords': WHATEVER THE INPUT: true; the input reads as it did. -/
def fnExactNodeWordsSpec : ChangeSpec := { name := "fnExactNodeWords", vars := ["loop.example/quoin/impl.sizeBits"], fn := fun _ => fun
  | [d, g1] => { results := [.lit (.bool true)], args := [d], vars := [g1] }
  | _ => none }
def fnExactNodeWordsRow : OpenClaim := { program := "ytmddfhjgdhjmkaadoor", sum := "35d0080d64094b55b14e9d0745b28aa7f4f471a56d45f542eefec6477b961def", func := "loop.example/quoin/laws.FnExactNodeWords", spec := "fnExactNodeWords", unfollowed := true, recurses := true, named := ["loop.example/quoin/impl.sizeBits"], loops := true, apart := false, laid := [("loop.example/quoin/impl.sizeBits", laid_loop_example_quoin_impl_sizeBits)] }
def FnExactNodeWordsSaid : Prop := fnExactNodeWordsRow.holds Tryd.pinned (OpenSpec.ofChange fnExactNodeWordsSpec)

/-- ITS FALSE NEIGHBOUR: 'it returns false'. Refute it at one input. -/
def fnExactNodeWordsWrong : ChangeSpec := { name := "fnExactNodeWords", vars := ["loop.example/quoin/impl.sizeBits"], fn := fun _ => fun
  | [d, g1] => { results := [.lit (.bool false)], args := [d], vars := [g1] }
  | _ => none }
def FnExactNodeWordsWrongFalsely : Prop := fnExactNodeWordsRow.holds Tryd.pinned (OpenSpec.ofChange fnExactNodeWordsWrong)

/-- 'laws.FnNodeOk': WHATEVER THE INPUT: true; the input reads as it did. -/
def fnNodeOkSpec : ChangeSpec := { name := "fnNodeOk", vars := ["loop.example/quoin/impl.sizeBits"], fn := fun _ => fun
  | [d, g1] => { results := [.lit (.bool true)], args := [d], vars := [g1] }
  | _ => none }
def fnNodeOkRow : OpenClaim := { program := "ytmddfhjgdhjmkaadoor", sum := "35d0080d64094b55b14e9d0745b28aa7f4f471a56d45f542eefec6477b961def", func := "loop.example/quoin/laws.FnNodeOk", spec := "fnNodeOk", unfollowed := true, recurses := true, named := ["loop.example/quoin/impl.sizeBits"], apart := false, laid := [("loop.example/quoin/impl.sizeBits", laid_loop_example_quoin_impl_sizeBits)] }
def FnNodeOkSaid : Prop := fnNodeOkRow.holds Tryd.pinned (OpenSpec.ofChange fnNodeOkSpec)

/-- ITS FALSE NEIGHBOUR: 'it returns false'. Refute it at one input. -/
def fnNodeOkWrong : ChangeSpec := { name := "fnNodeOk", vars := ["loop.example/quoin/impl.sizeBits"], fn := fun _ => fun
  | [d, g1] => { results := [.lit (.bool false)], args := [d], vars := [g1] }
  | _ => none }
def FnNodeOkWrongFalsely : Prop := fnNodeOkRow.holds Tryd.pinned (OpenSpec.ofChange fnNodeOkWrong)

/-- 'laws.FnExactReadCost': WHATEVER THE INPUT: true; the input reads as it did. -/
def fnExactReadCostSpec : ChangeSpec := { name := "fnExactReadCost", vars := ["loop.example/quoin/impl.sizeBits"], fn := fun _ => fun
  | [d, g1] => { results := [.lit (.bool true)], args := [d], vars := [g1] }
  | _ => none }
def fnExactReadCostRow : OpenClaim := { program := "ytmddfhjgdhjmkaadoor", sum := "35d0080d64094b55b14e9d0745b28aa7f4f471a56d45f542eefec6477b961def", func := "loop.example/quoin/laws.FnExactReadCost", spec := "fnExactReadCost", unfollowed := true, recurses := true, named := ["loop.example/quoin/impl.sizeBits"], loops := true, apart := false, laid := [("loop.example/quoin/impl.sizeBits", laid_loop_example_quoin_impl_sizeBits)] }
def FnExactReadCostSaid : Prop := fnExactReadCostRow.holds Tryd.pinned (OpenSpec.ofChange fnExactReadCostSpec)

/-- ITS FALSE NEIGHBOUR: 'it returns false'. Refute it at one input. -/
def fnExactReadCostWrong : ChangeSpec := { name := "fnExactReadCost", vars := ["loop.example/quoin/impl.sizeBits"], fn := fun _ => fun
  | [d, g1] => { results := [.lit (.bool false)], args := [d], vars := [g1] }
  | _ => none }
def FnExactReadCostWrongFalsely : Prop := fnExactReadCostRow.holds Tryd.pinned (OpenSpec.ofChange fnExactReadCostWrong)

/-- 'laws.FnReadCost': WHATEVER THE INPUT: true; the input reads as it did. -/
def fnReadCostSpec : ChangeSpec := { name := "fnReadCost", vars := ["loop.example/quoin/impl.sizeBits"], fn := fun _ => fun
  | [d, g1] => { results := [.lit (.bool true)], args := [d], vars := [g1] }
  | _ => none }
def fnReadCostRow : OpenClaim := { program := "ytmddfhjgdhjmkaadoor", sum := "35d0080d64094b55b14e9d0745b28aa7f4f471a56d45f542eefec6477b961def", func := "loop.example/quoin/laws.FnReadCost", spec := "fnReadCost", unfollowed := true, recurses := true, named := ["loop.example/quoin/impl.sizeBits"], apart := false, laid := [("loop.example/quoin/impl.sizeBits", laid_loop_example_quoin_impl_sizeBits)] }
def FnReadCostSaid : Prop := fnReadCostRow.holds Tryd.pinned (OpenSpec.ofChange fnReadCostSpec)

/-- ITS FALSE NEIGHBOUR: 'it returns false'. Refute it at one input. -/
def fnReadCostWrong : ChangeSpec := { name := "fnReadCost", vars := ["loop.example/quoin/impl.sizeBits"], fn := fun _ => fun
  | [d, g1] => { results := [.lit (.bool false)], args := [d], vars := [g1] }
  | _ => none }
def FnReadCostWrongFalsely : Prop := fnReadCostRow.holds Tryd.pinned (OpenSpec.ofChange fnReadCostWrong)

/-- 'laws.FnExactTextOf': WHATEVER THE INPUT: true; the input reads as it did. -/
def fnExactTextOfSpec : ChangeSpec := { name := "fnExactTextOf", vars := ["loop.example/quoin/impl.sizeBits"], fn := fun _ => fun
  | [d, g1] => { results := [.lit (.bool true)], args := [d], vars := [g1] }
  | _ => none }
def fnExactTextOfRow : OpenClaim := { program := "ytmddfhjgdhjmkaadoor", sum := "35d0080d64094b55b14e9d0745b28aa7f4f471a56d45f542eefec6477b961def", func := "loop.example/quoin/laws.FnExactTextOf", spec := "fnExactTextOf", inPlace := ["internal/bytealg.IndexByteString", "internal/bytealg.IndexString"], unfollowed := true, recurses := true, named := ["loop.example/quoin/impl.sizeBits", "internal/bytealg.MaxLen"], loops := true, apart := false, laid := [("loop.example/quoin/impl.sizeBits", laid_loop_example_quoin_impl_sizeBits)] }
def FnExactTextOfSaid : Prop := fnExactTextOfRow.holds Tryd.pinned (OpenSpec.ofChange fnExactTextOfSpec)

/-- ITS FALSE NEIGHBOUR: 'it returns false'. Refute it at one input. -/
def fnExactTextOfWrong : ChangeSpec := { name := "fnExactTextOf", vars := ["loop.example/quoin/impl.sizeBits"], fn := fun _ => fun
  | [d, g1] => { results := [.lit (.bool false)], args := [d], vars := [g1] }
  | _ => none }
def FnExactTextOfWrongFalsely : Prop := fnExactTextOfRow.holds Tryd.pinned (OpenSpec.ofChange fnExactTextOfWrong)

/-- 'laws.FnTextAlike': WHATEVER THE INPUT: true; the input reads as it did. -/
def fnTextAlikeSpec : ChangeSpec := { name := "fnTextAlike", vars := ["loop.example/quoin/impl.sizeBits"], fn := fun _ => fun
  | [d1, d2, g1] => { results := [.lit (.bool true)], args := [d1, d2], vars := [g1] }
  | _ => none }
def fnTextAlikeRow : OpenClaim := { program := "ytmddfhjgdhjmkaadoor", sum := "35d0080d64094b55b14e9d0745b28aa7f4f471a56d45f542eefec6477b961def", func := "loop.example/quoin/laws.FnTextAlike", spec := "fnTextAlike", inPlace := ["internal/bytealg.IndexByteString", "internal/bytealg.IndexString", "internal/abi.NoEscape", "internal/bytealg.MakeNoZero"], unfollowed := true, recurses := true, named := ["internal/bytealg.MaxLen", "loop.example/quoin/impl.sizeBits"], apart := false, laid := [("loop.example/quoin/impl.sizeBits", laid_loop_example_quoin_impl_sizeBits)] }
def FnTextAlikeSaid : Prop := fnTextAlikeRow.holds Tryd.pinned (OpenSpec.ofChange fnTextAlikeSpec)

/-- ITS FALSE NEIGHBOUR: 'it returns false'. Refute it at one input. -/
def fnTextAlikeWrong : ChangeSpec := { name := "fnTextAlike", vars := ["loop.example/quoin/impl.sizeBits"], fn := fun _ => fun
  | [d1, d2, g1] => { results := [.lit (.bool false)], args := [d1, d2], vars := [g1] }
  | _ => none }
def FnTextAlikeWrongFalsely : Prop := fnTextAlikeRow.holds Tryd.pinned (OpenSpec.ofChange fnTextAlikeWrong)

/-- 'laws.FnText': WHATEVER THE INPUT: true; the input reads as it did. -/
def fnTextSpec : ChangeSpec := { name := "fnText", vars := ["loop.example/quoin/impl.sizeBits"], fn := fun _ => fun
  | [d1, d2, g1] => { results := [.lit (.bool true)], args := [d1, d2], vars := [g1] }
  | _ => none }
def fnTextRow : OpenClaim := { program := "ytmddfhjgdhjmkaadoor", sum := "35d0080d64094b55b14e9d0745b28aa7f4f471a56d45f542eefec6477b961def", func := "loop.example/quoin/laws.FnText", spec := "fnText", inPlace := ["internal/bytealg.IndexByteString", "internal/bytealg.IndexString"], unfollowed := true, recurses := true, named := ["internal/bytealg.MaxLen", "loop.example/quoin/impl.sizeBits"], apart := false, laid := [("loop.example/quoin/impl.sizeBits", laid_loop_example_quoin_impl_sizeBits)] }
def FnTextSaid : Prop := fnTextRow.holds Tryd.pinned (OpenSpec.ofChange fnTextSpec)

/-- ITS FALSE NEIGHBOUR: 'it returns false'. Refute it at one input. -/
def fnTextWrong : ChangeSpec := { name := "fnText", vars := ["loop.example/quoin/impl.sizeBits"], fn := fun _ => fun
  | [d1, d2, g1] => { results := [.lit (.bool false)], args := [d1, d2], vars := [g1] }
  | _ => none }
def FnTextWrongFalsely : Prop := fnTextRow.holds Tryd.pinned (OpenSpec.ofChange fnTextWrong)

/-- 'laws.FnExactAlike': WHATEVER THE INPUT: true; the input reads as it did. -/
def fnExactAlikeSpec : ChangeSpec := { name := "fnExactAlike", vars := ["loop.example/quoin/impl.sizeBits"], fn := fun _ => fun
  | [d1, d2, g1] => { results := [.lit (.bool true)], args := [d1, d2], vars := [g1] }
  | _ => none }
def fnExactAlikeRow : OpenClaim := { program := "ytmddfhjgdhjmkaadoor", sum := "35d0080d64094b55b14e9d0745b28aa7f4f471a56d45f542eefec6477b961def", func := "loop.example/quoin/laws.FnExactAlike", spec := "fnExactAlike", inPlace := ["internal/abi.NoEscape", "internal/bytealg.MakeNoZero"], unfollowed := true, recurses := true, named := ["loop.example/quoin/impl.sizeBits"], loops := true, apart := false, laid := [("loop.example/quoin/impl.sizeBits", laid_loop_example_quoin_impl_sizeBits)] }
def FnExactAlikeSaid : Prop := fnExactAlikeRow.holds Tryd.pinned (OpenSpec.ofChange fnExactAlikeSpec)

/-- ITS FALSE NEIGHBOUR: 'it returns false'. Refute it at one input. -/
def fnExactAlikeWrong : ChangeSpec := { name := "fnExactAlike", vars := ["loop.example/quoin/impl.sizeBits"], fn := fun _ => fun
  | [d1, d2, g1] => { results := [.lit (.bool false)], args := [d1, d2], vars := [g1] }
  | _ => none }
def FnExactAlikeWrongFalsely : Prop := fnExactAlikeRow.holds Tryd.pinned (OpenSpec.ofChange fnExactAlikeWrong)

/-- 'laws.FnNodeWords': WHATEVER THE INPUT: true; the input reads as it did. -/
def fnNodeWordsSpec : ChangeSpec := { name := "fnNodeWords", vars := ["loop.example/quoin/impl.sizeBits"], fn := fun _ => fun
  | [d, g1] => { results := [.lit (.bool true)], args := [d], vars := [g1] }
  | _ => none }
def fnNodeWordsRow : OpenClaim := { program := "ytmddfhjgdhjmkaadoor", sum := "35d0080d64094b55b14e9d0745b28aa7f4f471a56d45f542eefec6477b961def", func := "loop.example/quoin/laws.FnNodeWords", spec := "fnNodeWords", inPlace := ["internal/abi.NoEscape", "internal/bytealg.MakeNoZero"], unfollowed := true, recurses := true, named := ["loop.example/quoin/impl.sizeBits"], apart := false, laid := [("loop.example/quoin/impl.sizeBits", laid_loop_example_quoin_impl_sizeBits)] }
def FnNodeWordsSaid : Prop := fnNodeWordsRow.holds Tryd.pinned (OpenSpec.ofChange fnNodeWordsSpec)

/-- ITS FALSE NEIGHBOUR: 'it returns false'. Refute it at one input. -/
def fnNodeWordsWrong : ChangeSpec := { name := "fnNodeWords", vars := ["loop.example/quoin/impl.sizeBits"], fn := fun _ => fun
  | [d, g1] => { results := [.lit (.bool false)], args := [d], vars := [g1] }
  | _ => none }
def FnNodeWordsWrongFalsely : Prop := fnNodeWordsRow.holds Tryd.pinned (OpenSpec.ofChange fnNodeWordsWrong)

/- THE SECOND FORM. 'bulk': how many values and letters a reading holds, each counted each time it is reached (what is shared counts as often as it is met; a slice's spare places count too). A statement '..UptoSaid' is the law's where the arguments, and the package variables that the reading takes, are together of bulk at most 1048576: NARROWER than '..Said'. Prove '..Said' where nothing that the law and all that it calls make is longer than what came in: it says more and counts as full. Else prove '..UptoSaid'. A law counts once. -/
mutual
def uptoBulk {H : Type} : DataW H → Nat
  | .lit (.string bytes) => bytes.length + 1
  | .lit _ => 1
  | .nil => 1
  | .ptr d => uptoBulk d + 1
  | .slice elems spare => uptoBulkAll elems + uptoBulkAll spare + 1
  | .agg parts => uptoBulkAll parts + 1
  | .iface _ d => uptoBulk d + 1
  | .map entries => uptoBulkEntries entries + 1
  | .held _ => 1
def uptoBulkAll {H : Type} : List (DataW H) → Nat
  | [] => 0
  | d :: r => uptoBulk d + uptoBulkAll r
def uptoBulkEntries {H : Type} : List (Lit × DataW H) → Nat
  | [] => 0
  | x :: r => uptoBulkEntry x + uptoBulkEntries r
def uptoBulkEntry {H : Type} : Lit × DataW H → Nat
  | (.string bytes, d) => bytes.length + uptoBulk d + 1
  | (_, d) => uptoBulk d + 1
 end
def uptoSmall : (H : Type) → List (DataW H) → Bool := fun _ ds => decide (uptoBulkAll ds ≤ 1048576)
def OpenSpec.upto (s : _root_.Go.ChangeSpec) : _root_.Go.OpenSpec := { _root_.Go.OpenSpec.ofChange s with cond := some uptoSmall }

/-- 'laws.FnExactNodeOk', WHERE WHAT IT READS IS OF BULK AT MOST 1048576: true; the input reads as it did. -/
def fnExactNodeOkUptoRow : OpenClaim := { program := "ytmddfhjgdhjmkaadoor", sum := "35d0080d64094b55b14e9d0745b28aa7f4f471a56d45f542eefec6477b961def", func := "loop.example/quoin/laws.FnExactNodeOk", spec := "fnExactNodeOk", unfollowed := true, recurses := true, named := ["loop.example/quoin/impl.sizeBits"], loops := true, apart := false, laid := [("loop.example/quoin/impl.sizeBits", laid_loop_example_quoin_impl_sizeBits)], narrowed := true }
def FnExactNodeOkUptoSaid : Prop := fnExactNodeOkUptoRow.holds Tryd.pinned (OpenSpec.upto fnExactNodeOkSpec)

/-- 'laws.FnExactNodeWords', WHERE WHAT IT READS IS OF BULK AT MOST 1048576: true; the input reads as it did. -/
def fnExactNodeWordsUptoRow : OpenClaim := { program := "ytmddfhjgdhjmkaadoor", sum := "35d0080d64094b55b14e9d0745b28aa7f4f471a56d45f542eefec6477b961def", func := "loop.example/quoin/laws.FnExactNodeWords", spec := "fnExactNodeWords", unfollowed := true, recurses := true, named := ["loop.example/quoin/impl.sizeBits"], loops := true, apart := false, laid := [("loop.example/quoin/impl.sizeBits", laid_loop_example_quoin_impl_sizeBits)], narrowed := true }
def FnExactNodeWordsUptoSaid : Prop := fnExactNodeWordsUptoRow.holds Tryd.pinned (OpenSpec.upto fnExactNodeWordsSpec)

/-- 'laws.FnNodeOk', WHERE WHAT IT READS IS OF BULK AT MOST 1048576: true; the input reads as it did. -/
def fnNodeOkUptoRow : OpenClaim := { program := "ytmddfhjgdhjmkaadoor", sum := "35d0080d64094b55b14e9d0745b28aa7f4f471a56d45f542eefec6477b961def", func := "loop.example/quoin/laws.FnNodeOk", spec := "fnNodeOk", unfollowed := true, recurses := true, named := ["loop.example/quoin/impl.sizeBits"], apart := false, laid := [("loop.example/quoin/impl.sizeBits", laid_loop_example_quoin_impl_sizeBits)], narrowed := true }
def FnNodeOkUptoSaid : Prop := fnNodeOkUptoRow.holds Tryd.pinned (OpenSpec.upto fnNodeOkSpec)

/-- 'laws.FnExactReadCost', WHERE WHAT IT READS IS OF BULK AT MOST 1048576: true; the input reads as it did. -/
def fnExactReadCostUptoRow : OpenClaim := { program := "ytmddfhjgdhjmkaadoor", sum := "35d0080d64094b55b14e9d0745b28aa7f4f471a56d45f542eefec6477b961def", func := "loop.example/quoin/laws.FnExactReadCost", spec := "fnExactReadCost", unfollowed := true, recurses := true, named := ["loop.example/quoin/impl.sizeBits"], loops := true, apart := false, laid := [("loop.example/quoin/impl.sizeBits", laid_loop_example_quoin_impl_sizeBits)], narrowed := true }
def FnExactReadCostUptoSaid : Prop := fnExactReadCostUptoRow.holds Tryd.pinned (OpenSpec.upto fnExactReadCostSpec)

/-- 'laws.FnReadCost', WHERE WHAT IT READS IS OF BULK AT MOST 1048576: true; the input reads as it did. -/
def fnReadCostUptoRow : OpenClaim := { program := "ytmddfhjgdhjmkaadoor", sum := "35d0080d64094b55b14e9d0745b28aa7f4f471a56d45f542eefec6477b961def", func := "loop.example/quoin/laws.FnReadCost", spec := "fnReadCost", unfollowed := true, recurses := true, named := ["loop.example/quoin/impl.sizeBits"], apart := false, laid := [("loop.example/quoin/impl.sizeBits", laid_loop_example_quoin_impl_sizeBits)], narrowed := true }
def FnReadCostUptoSaid : Prop := fnReadCostUptoRow.holds Tryd.pinned (OpenSpec.upto fnReadCostSpec)

/-- 'laws.FnExactTextOf', WHERE WHAT IT READS IS OF BULK AT MOST 1048576: true; the input reads as it did. -/
def fnExactTextOfUptoRow : OpenClaim := { program := "ytmddfhjgdhjmkaadoor", sum := "35d0080d64094b55b14e9d0745b28aa7f4f471a56d45f542eefec6477b961def", func := "loop.example/quoin/laws.FnExactTextOf", spec := "fnExactTextOf", inPlace := ["internal/bytealg.IndexByteString", "internal/bytealg.IndexString"], unfollowed := true, recurses := true, named := ["loop.example/quoin/impl.sizeBits", "internal/bytealg.MaxLen"], loops := true, apart := false, laid := [("loop.example/quoin/impl.sizeBits", laid_loop_example_quoin_impl_sizeBits)], narrowed := true }
def FnExactTextOfUptoSaid : Prop := fnExactTextOfUptoRow.holds Tryd.pinned (OpenSpec.upto fnExactTextOfSpec)

/-- 'laws.FnTextAlike', WHERE WHAT IT READS IS OF BULK AT MOST 1048576: true; the input reads as it did. -/
def fnTextAlikeUptoRow : OpenClaim := { program := "ytmddfhjgdhjmkaadoor", sum := "35d0080d64094b55b14e9d0745b28aa7f4f471a56d45f542eefec6477b961def", func := "loop.example/quoin/laws.FnTextAlike", spec := "fnTextAlike", inPlace := ["internal/bytealg.IndexByteString", "internal/bytealg.IndexString", "internal/abi.NoEscape", "internal/bytealg.MakeNoZero"], unfollowed := true, recurses := true, named := ["internal/bytealg.MaxLen", "loop.example/quoin/impl.sizeBits"], apart := false, laid := [("loop.example/quoin/impl.sizeBits", laid_loop_example_quoin_impl_sizeBits)], narrowed := true }
def FnTextAlikeUptoSaid : Prop := fnTextAlikeUptoRow.holds Tryd.pinned (OpenSpec.upto fnTextAlikeSpec)

/-- 'laws.FnText', WHERE WHAT IT READS IS OF BULK AT MOST 1048576: true; the input reads as it did. -/
def fnTextUptoRow : OpenClaim := { program := "ytmddfhjgdhjmkaadoor", sum := "35d0080d64094b55b14e9d0745b28aa7f4f471a56d45f542eefec6477b961def", func := "loop.example/quoin/laws.FnText", spec := "fnText", inPlace := ["internal/bytealg.IndexByteString", "internal/bytealg.IndexString"], unfollowed := true, recurses := true, named := ["internal/bytealg.MaxLen", "loop.example/quoin/impl.sizeBits"], apart := false, laid := [("loop.example/quoin/impl.sizeBits", laid_loop_example_quoin_impl_sizeBits)], narrowed := true }
def FnTextUptoSaid : Prop := fnTextUptoRow.holds Tryd.pinned (OpenSpec.upto fnTextSpec)

/-- 'laws.FnExactAlike', WHERE WHAT IT READS IS OF BULK AT MOST 1048576: true; the input reads as it did. -/
def fnExactAlikeUptoRow : OpenClaim := { program := "ytmddfhjgdhjmkaadoor", sum := "35d0080d64094b55b14e9d0745b28aa7f4f471a56d45f542eefec6477b961def", func := "loop.example/quoin/laws.FnExactAlike", spec := "fnExactAlike", inPlace := ["internal/abi.NoEscape", "internal/bytealg.MakeNoZero"], unfollowed := true, recurses := true, named := ["loop.example/quoin/impl.sizeBits"], loops := true, apart := false, laid := [("loop.example/quoin/impl.sizeBits", laid_loop_example_quoin_impl_sizeBits)], narrowed := true }
def FnExactAlikeUptoSaid : Prop := fnExactAlikeUptoRow.holds Tryd.pinned (OpenSpec.upto fnExactAlikeSpec)

/-- 'laws.FnNodeWords', WHERE WHAT IT READS IS OF BULK AT MOST 1048576: true; the input reads as it did. -/
def fnNodeWordsUptoRow : OpenClaim := { program := "ytmddfhjgdhjmkaadoor", sum := "35d0080d64094b55b14e9d0745b28aa7f4f471a56d45f542eefec6477b961def", func := "loop.example/quoin/laws.FnNodeWords", spec := "fnNodeWords", inPlace := ["internal/abi.NoEscape", "internal/bytealg.MakeNoZero"], unfollowed := true, recurses := true, named := ["loop.example/quoin/impl.sizeBits"], apart := false, laid := [("loop.example/quoin/impl.sizeBits", laid_loop_example_quoin_impl_sizeBits)], narrowed := true }
def FnNodeWordsUptoSaid : Prop := fnNodeWordsUptoRow.holds Tryd.pinned (OpenSpec.upto fnNodeWordsSpec)

end Rows
end Go.Proofs.YtmddfhjgdhjmkaaDoor
