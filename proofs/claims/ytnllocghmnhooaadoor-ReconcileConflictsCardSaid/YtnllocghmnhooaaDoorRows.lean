/-
  NARROWER THAN 'FOR EVERY INPUT', by the rows' own cells (each row's printed sentence says how): ReconcileAnswer: laid · ReconcileSync: laid · ReconcileAgreement: laid · ReconcileEconomy: laid · ReconcileConflicts: laid · ReconcileExchange: laid · ReconcileRenaming: laid · ReconcileUnion: laid.
  DERIVED. THE GIVEN ROWS OF THIS SEAT. 8 by the template 'for every input the law returns true; each argument reads behind the call as it read before'; 0 by the template 'total and deterministic' (their statements: YtnllocghmnhooaaDoorTotals.lean).
  GIVEN WITH THE SEED: the statements are not yours to turn. If you find one false, say at which input.
  Laid BY PROGRAM, IN A SANDBOX (cutbox-rows.mjs): the forced cells as the released guide's own fill.sh prints them over the translation 2c339b0819d804f0… (all of the seat's roots in one cut). By AI agents, Wed Nov 11 2026. No macro, syntax, notation, axiom, sorry.
-/
import Derived.Test.YtnllocghmnhooaaDoorChecked
import GoSem.Claim
import GoSem.ClaimJoined
import GoSem.ClaimMapViews
import Derived.JoinedTies
import Derived.KernelRfl
namespace Go.Proofs.YtnllocghmnhooaaDoor
/- THE CELL 'sum', in the pinned program and in every row, IS THE sha256 OF THE DUMP (.gsa) THAT YtnllocghmnhooaaDoorProg.lean LOADS. Nothing in Lean hashes anything: it is a label: what it is worth is what the hold of that sum in a sandbox is worth. -/
noncomputable def Tryd.pinned : Pinned := { name := "ytnllocghmnhooaadoor", sum := "2c339b0819d804f093159c86c16f7573039628379c4c34f416d466138d7bbea6", checked := Tryd.checked }
namespace Rows
def none {H : Type} : Left H := { results := [], args := [] }

/- WHAT THE LISTED PACKAGE-LEVEL VARIABLES READ AS WHEN THE CALL BEGINS. Each datum BY PROGRAM (the guide's laid-datum.mjs) off the statement by which the dump's own 'gosem.cut.vars' lays the variable. In a bare row this is a premise. The card (YtnllocghmnhooaaDoorCards.lean) ties it to the program's text. -/
def laid_math_bits_deBruijn32tab {H : Type} : DataW H := .agg [.lit (.int .u8 0), .lit (.int .u8 1), .lit (.int .u8 28), .lit (.int .u8 2), .lit (.int .u8 29), .lit (.int .u8 14), .lit (.int .u8 24), .lit (.int .u8 3), .lit (.int .u8 30), .lit (.int .u8 22), .lit (.int .u8 20), .lit (.int .u8 15), .lit (.int .u8 25), .lit (.int .u8 17), .lit (.int .u8 4), .lit (.int .u8 8), .lit (.int .u8 31), .lit (.int .u8 27), .lit (.int .u8 13), .lit (.int .u8 23), .lit (.int .u8 21), .lit (.int .u8 19), .lit (.int .u8 16), .lit (.int .u8 7), .lit (.int .u8 26), .lit (.int .u8 12), .lit (.int .u8 18), .lit (.int .u8 6), .lit (.int .u8 11), .lit (.int .u8 5), .lit (.int .u8 10), .lit (.int .u8 9)]
def laid_math_bits_deBruijn64tab {H : Type} : DataW H := .agg [.lit (.int .u8 0), .lit (.int .u8 1), .lit (.int .u8 56), .lit (.int .u8 2), .lit (.int .u8 57), .lit (.int .u8 49), .lit (.int .u8 28), .lit (.int .u8 3), .lit (.int .u8 61), .lit (.int .u8 58), .lit (.int .u8 42), .lit (.int .u8 50), .lit (.int .u8 38), .lit (.int .u8 29), .lit (.int .u8 17), .lit (.int .u8 4), .lit (.int .u8 62), .lit (.int .u8 47), .lit (.int .u8 59), .lit (.int .u8 36), .lit (.int .u8 45), .lit (.int .u8 43), .lit (.int .u8 51), .lit (.int .u8 22), .lit (.int .u8 53), .lit (.int .u8 39), .lit (.int .u8 33), .lit (.int .u8 30), .lit (.int .u8 24), .lit (.int .u8 18), .lit (.int .u8 12), .lit (.int .u8 5), .lit (.int .u8 63), .lit (.int .u8 55), .lit (.int .u8 48), .lit (.int .u8 27), .lit (.int .u8 60), .lit (.int .u8 41), .lit (.int .u8 37), .lit (.int .u8 16), .lit (.int .u8 46), .lit (.int .u8 35), .lit (.int .u8 44), .lit (.int .u8 21), .lit (.int .u8 52), .lit (.int .u8 32), .lit (.int .u8 23), .lit (.int .u8 11), .lit (.int .u8 54), .lit (.int .u8 26), .lit (.int .u8 40), .lit (.int .u8 15), .lit (.int .u8 34), .lit (.int .u8 20), .lit (.int .u8 31), .lit (.int .u8 10), .lit (.int .u8 25), .lit (.int .u8 14), .lit (.int .u8 19), .lit (.int .u8 9), .lit (.int .u8 13), .lit (.int .u8 8), .lit (.int .u8 7), .lit (.int .u8 6)]
def laid_internal_strconv_uint64pow10 {H : Type} : DataW H := .agg [.lit (.int .u64 1), .lit (.int .u64 10), .lit (.int .u64 100), .lit (.int .u64 1000), .lit (.int .u64 10000), .lit (.int .u64 100000), .lit (.int .u64 1000000), .lit (.int .u64 10000000), .lit (.int .u64 100000000), .lit (.int .u64 1000000000), .lit (.int .u64 10000000000), .lit (.int .u64 100000000000), .lit (.int .u64 1000000000000), .lit (.int .u64 10000000000000), .lit (.int .u64 100000000000000), .lit (.int .u64 1000000000000000), .lit (.int .u64 10000000000000000), .lit (.int .u64 100000000000000000), .lit (.int .u64 1000000000000000000), .lit (.int .u64 10000000000000000000)]

/-- 'stelelaw58.ReconcileAnswer': WHATEVER THE INPUT: true; the input reads as it did. -/
def reconcileAnswerSpec : ChangeSpec := { name := "reconcileAnswer", fn := fun _ => fun
  | [d1, d2] => { results := [.lit (.bool true)], args := [d1, d2] }
  | _ => none }
def reconcileAnswerRow : OpenClaim := { program := "ytnllocghmnhooaadoor", sum := "2c339b0819d804f093159c86c16f7573039628379c4c34f416d466138d7bbea6", func := "stele/stelelaw58.ReconcileAnswer", spec := "reconcileAnswer", inPlace := ["internal/abi.NoEscape", "internal/bytealg.MakeNoZero", "slices.overlaps[stele/api.Record]"], unfollowed := true, recurses := true, named := ["internal/strconv.uint64pow10", "math/bits.deBruijn32tab", "math/bits.deBruijn64tab"], apart := false, laid := [("math/bits.deBruijn32tab", laid_math_bits_deBruijn32tab), ("math/bits.deBruijn64tab", laid_math_bits_deBruijn64tab), ("internal/strconv.uint64pow10", laid_internal_strconv_uint64pow10)] }
def ReconcileAnswerSaid : Prop := reconcileAnswerRow.holds Tryd.pinned (OpenSpec.ofChange reconcileAnswerSpec)

/-- ITS FALSE NEIGHBOUR: 'it returns false'. Refute it at one input. -/
def reconcileAnswerWrong : ChangeSpec := { name := "reconcileAnswer", fn := fun _ => fun
  | [d1, d2] => { results := [.lit (.bool false)], args := [d1, d2] }
  | _ => none }
def ReconcileAnswerWrongFalsely : Prop := reconcileAnswerRow.holds Tryd.pinned (OpenSpec.ofChange reconcileAnswerWrong)

/-- 'stelelaw58.ReconcileSync': WHATEVER THE INPUT: true; the input reads as it did. -/
def reconcileSyncSpec : ChangeSpec := { name := "reconcileSync", fn := fun _ => fun
  | [d] => { results := [.lit (.bool true)], args := [d] }
  | _ => none }
def reconcileSyncRow : OpenClaim := { program := "ytnllocghmnhooaadoor", sum := "2c339b0819d804f093159c86c16f7573039628379c4c34f416d466138d7bbea6", func := "stele/stelelaw58.ReconcileSync", spec := "reconcileSync", inPlace := ["internal/abi.NoEscape", "internal/bytealg.MakeNoZero", "slices.overlaps[stele/api.Record]"], unfollowed := true, recurses := true, named := ["internal/strconv.uint64pow10", "math/bits.deBruijn32tab", "math/bits.deBruijn64tab"], apart := false, laid := [("math/bits.deBruijn32tab", laid_math_bits_deBruijn32tab), ("math/bits.deBruijn64tab", laid_math_bits_deBruijn64tab), ("internal/strconv.uint64pow10", laid_internal_strconv_uint64pow10)] }
def ReconcileSyncSaid : Prop := reconcileSyncRow.holds Tryd.pinned (OpenSpec.ofChange reconcileSyncSpec)

/-- ITS FALSE NEIGHBOUR: 'it returns false'. Refute it at one input. -/
def reconcileSyncWrong : ChangeSpec := { name := "reconcileSync", fn := fun _ => fun
  | [d] => { results := [.lit (.bool false)], args := [d] }
  | _ => none }
def ReconcileSyncWrongFalsely : Prop := reconcileSyncRow.holds Tryd.pinned (OpenSpec.ofChange reconcileSyncWrong)

/-- 'stelelaw58.ReconcileAgreement': WHATEVER THE INPUT: true; the input reads as it did. -/
def reconcileAgreementSpec : ChangeSpec := { name := "reconcileAgreement", fn := fun _ => fun
  | [d] => { results := [.lit (.bool true)], args := [d] }
  | _ => none }
def reconcileAgreementRow : OpenClaim := { program := "ytnllocghmnhooaadoor", sum := "2c339b0819d804f093159c86c16f7573039628379c4c34f416d466138d7bbea6", func := "stele/stelelaw58.ReconcileAgreement", spec := "reconcileAgreement", inPlace := ["internal/abi.NoEscape", "internal/bytealg.MakeNoZero", "slices.overlaps[stele/api.Record]"], unfollowed := true, recurses := true, named := ["internal/strconv.uint64pow10", "math/bits.deBruijn32tab", "math/bits.deBruijn64tab"], apart := false, laid := [("math/bits.deBruijn32tab", laid_math_bits_deBruijn32tab), ("math/bits.deBruijn64tab", laid_math_bits_deBruijn64tab), ("internal/strconv.uint64pow10", laid_internal_strconv_uint64pow10)] }
def ReconcileAgreementSaid : Prop := reconcileAgreementRow.holds Tryd.pinned (OpenSpec.ofChange reconcileAgreementSpec)

/-- ITS FALSE NEIGHBOUR: 'it returns false'. Refute it at one input. -/
def reconcileAgreementWrong : ChangeSpec := { name := "reconcileAgreement", fn := fun _ => fun
  | [d] => { results := [.lit (.bool false)], args := [d] }
  | _ => none }
def ReconcileAgreementWrongFalsely : Prop := reconcileAgreementRow.holds Tryd.pinned (OpenSpec.ofChange reconcileAgreementWrong)

/-- 'stelelaw58.ReconcileEconomy': WHATEVER THE INPUT: true; the input reads as it did. -/
def reconcileEconomySpec : ChangeSpec := { name := "reconcileEconomy", fn := fun _ => fun
  | [d] => { results := [.lit (.bool true)], args := [d] }
  | _ => none }
def reconcileEconomyRow : OpenClaim := { program := "ytnllocghmnhooaadoor", sum := "2c339b0819d804f093159c86c16f7573039628379c4c34f416d466138d7bbea6", func := "stele/stelelaw58.ReconcileEconomy", spec := "reconcileEconomy", inPlace := ["internal/abi.NoEscape", "internal/bytealg.MakeNoZero", "slices.overlaps[stele/api.Record]"], unfollowed := true, recurses := true, named := ["internal/strconv.uint64pow10", "math/bits.deBruijn32tab", "math/bits.deBruijn64tab"], apart := false, laid := [("math/bits.deBruijn32tab", laid_math_bits_deBruijn32tab), ("math/bits.deBruijn64tab", laid_math_bits_deBruijn64tab), ("internal/strconv.uint64pow10", laid_internal_strconv_uint64pow10)] }
def ReconcileEconomySaid : Prop := reconcileEconomyRow.holds Tryd.pinned (OpenSpec.ofChange reconcileEconomySpec)

/-- ITS FALSE NEIGHBOUR: 'it returns false'. Refute it at one input. -/
def reconcileEconomyWrong : ChangeSpec := { name := "reconcileEconomy", fn := fun _ => fun
  | [d] => { results := [.lit (.bool false)], args := [d] }
  | _ => none }
def ReconcileEconomyWrongFalsely : Prop := reconcileEconomyRow.holds Tryd.pinned (OpenSpec.ofChange reconcileEconomyWrong)

/-- 'stelelaw58.ReconcileConflicts': WHATEVER THE INPUT: true; the input reads as it did. -/
def reconcileConflictsSpec : ChangeSpec := { name := "reconcileConflicts", fn := fun _ => fun
  | [d] => { results := [.lit (.bool true)], args := [d] }
  | _ => none }
def reconcileConflictsRow : OpenClaim := { program := "ytnllocghmnhooaadoor", sum := "2c339b0819d804f093159c86c16f7573039628379c4c34f416d466138d7bbea6", func := "stele/stelelaw58.ReconcileConflicts", spec := "reconcileConflicts", inPlace := ["internal/abi.NoEscape", "internal/bytealg.MakeNoZero", "slices.overlaps[stele/api.Record]"], unfollowed := true, recurses := true, named := ["internal/strconv.uint64pow10", "math/bits.deBruijn32tab", "math/bits.deBruijn64tab"], apart := false, laid := [("math/bits.deBruijn32tab", laid_math_bits_deBruijn32tab), ("math/bits.deBruijn64tab", laid_math_bits_deBruijn64tab), ("internal/strconv.uint64pow10", laid_internal_strconv_uint64pow10)] }
def ReconcileConflictsSaid : Prop := reconcileConflictsRow.holds Tryd.pinned (OpenSpec.ofChange reconcileConflictsSpec)

/-- ITS FALSE NEIGHBOUR: 'it returns false'. Refute it at one input. -/
def reconcileConflictsWrong : ChangeSpec := { name := "reconcileConflicts", fn := fun _ => fun
  | [d] => { results := [.lit (.bool false)], args := [d] }
  | _ => none }
def ReconcileConflictsWrongFalsely : Prop := reconcileConflictsRow.holds Tryd.pinned (OpenSpec.ofChange reconcileConflictsWrong)

/-- 'stelelaw58.ReconcileExchange': WHATEVER THE INPUT: true; the input reads as it did. -/
def reconcileExchangeSpec : ChangeSpec := { name := "reconcileExchange", fn := fun _ => fun
  | [d] => { results := [.lit (.bool true)], args := [d] }
  | _ => none }
def reconcileExchangeRow : OpenClaim := { program := "ytnllocghmnhooaadoor", sum := "2c339b0819d804f093159c86c16f7573039628379c4c34f416d466138d7bbea6", func := "stele/stelelaw58.ReconcileExchange", spec := "reconcileExchange", inPlace := ["internal/abi.NoEscape", "internal/bytealg.MakeNoZero", "slices.overlaps[stele/api.Record]"], unfollowed := true, recurses := true, named := ["internal/strconv.uint64pow10", "math/bits.deBruijn32tab", "math/bits.deBruijn64tab"], apart := false, laid := [("math/bits.deBruijn32tab", laid_math_bits_deBruijn32tab), ("math/bits.deBruijn64tab", laid_math_bits_deBruijn64tab), ("internal/strconv.uint64pow10", laid_internal_strconv_uint64pow10)] }
def ReconcileExchangeSaid : Prop := reconcileExchangeRow.holds Tryd.pinned (OpenSpec.ofChange reconcileExchangeSpec)

/-- ITS FALSE NEIGHBOUR: 'it returns false'. Refute it at one input. -/
def reconcileExchangeWrong : ChangeSpec := { name := "reconcileExchange", fn := fun _ => fun
  | [d] => { results := [.lit (.bool false)], args := [d] }
  | _ => none }
def ReconcileExchangeWrongFalsely : Prop := reconcileExchangeRow.holds Tryd.pinned (OpenSpec.ofChange reconcileExchangeWrong)

/-- 'stelelaw58.ReconcileRenaming': WHATEVER THE INPUT: true; the input reads as it did. -/
def reconcileRenamingSpec : ChangeSpec := { name := "reconcileRenaming", fn := fun _ => fun
  | [d1, d2] => { results := [.lit (.bool true)], args := [d1, d2] }
  | _ => none }
def reconcileRenamingRow : OpenClaim := { program := "ytnllocghmnhooaadoor", sum := "2c339b0819d804f093159c86c16f7573039628379c4c34f416d466138d7bbea6", func := "stele/stelelaw58.ReconcileRenaming", spec := "reconcileRenaming", inPlace := ["internal/abi.NoEscape", "internal/bytealg.MakeNoZero", "slices.overlaps[stele/api.Record]"], unfollowed := true, recurses := true, named := ["internal/strconv.uint64pow10", "math/bits.deBruijn32tab", "math/bits.deBruijn64tab"], apart := false, laid := [("math/bits.deBruijn32tab", laid_math_bits_deBruijn32tab), ("math/bits.deBruijn64tab", laid_math_bits_deBruijn64tab), ("internal/strconv.uint64pow10", laid_internal_strconv_uint64pow10)] }
def ReconcileRenamingSaid : Prop := reconcileRenamingRow.holds Tryd.pinned (OpenSpec.ofChange reconcileRenamingSpec)

/-- ITS FALSE NEIGHBOUR: 'it returns false'. Refute it at one input. -/
def reconcileRenamingWrong : ChangeSpec := { name := "reconcileRenaming", fn := fun _ => fun
  | [d1, d2] => { results := [.lit (.bool false)], args := [d1, d2] }
  | _ => none }
def ReconcileRenamingWrongFalsely : Prop := reconcileRenamingRow.holds Tryd.pinned (OpenSpec.ofChange reconcileRenamingWrong)

/-- 'stelelaw58.ReconcileUnion': WHATEVER THE INPUT: true; the input reads as it did. -/
def reconcileUnionSpec : ChangeSpec := { name := "reconcileUnion", fn := fun _ => fun
  | [d] => { results := [.lit (.bool true)], args := [d] }
  | _ => none }
def reconcileUnionRow : OpenClaim := { program := "ytnllocghmnhooaadoor", sum := "2c339b0819d804f093159c86c16f7573039628379c4c34f416d466138d7bbea6", func := "stele/stelelaw58.ReconcileUnion", spec := "reconcileUnion", inPlace := ["internal/abi.NoEscape", "internal/bytealg.MakeNoZero", "slices.overlaps[stele/api.Record]"], unfollowed := true, recurses := true, named := ["internal/strconv.uint64pow10", "math/bits.deBruijn32tab", "math/bits.deBruijn64tab"], apart := false, laid := [("math/bits.deBruijn32tab", laid_math_bits_deBruijn32tab), ("math/bits.deBruijn64tab", laid_math_bits_deBruijn64tab), ("internal/strconv.uint64pow10", laid_internal_strconv_uint64pow10)] }
def ReconcileUnionSaid : Prop := reconcileUnionRow.holds Tryd.pinned (OpenSpec.ofChange reconcileUnionSpec)

/-- ITS FALSE NEIGHBOUR: 'it returns false'. Refute it at one input. -/
def reconcileUnionWrong : ChangeSpec := { name := "reconcileUnion", fn := fun _ => fun
  | [d] => { results := [.lit (.bool false)], args := [d] }
  | _ => none }
def ReconcileUnionWrongFalsely : Prop := reconcileUnionRow.holds Tryd.pinned (OpenSpec.ofChange reconcileUnionWrong)

/- THE SECOND FORM. 'bulk': how many values and letters a reading holds, each counted each time it is reached (what is shared counts as often as it is met; a slice's spare places count too). A statement '..UptoSaid' is the law's where the arguments, and the package variables that the reading takes, are together of bulk at most 1048576: NARROWER than '..Said'. Prove '..Said' where nothing that the law and all that it calls make is longer than what came in: it says more and counts as full. Else prove '..UptoSaid'. A law counts once. -/
mutual
def uptoBulk {H : Type} : DataW H → Nat
  | .lit (.string bytes) => bytes.length + 1
  | .lit _ => 1
  | .nil => 1
  | .ptr d => uptoBulk d + 1
  | .slice elems spare => uptoBulkAll elems + uptoBulkAll spare + 1
  | .agg parts => uptoBulkAll parts + 1
  | .iface _ d => uptoBulk d + 1
  | .map entries => uptoBulkEntries entries + 1
  | .held _ => 1
def uptoBulkAll {H : Type} : List (DataW H) → Nat
  | [] => 0
  | d :: r => uptoBulk d + uptoBulkAll r
def uptoBulkEntries {H : Type} : List (Lit × DataW H) → Nat
  | [] => 0
  | x :: r => uptoBulkEntry x + uptoBulkEntries r
def uptoBulkEntry {H : Type} : Lit × DataW H → Nat
  | (.string bytes, d) => bytes.length + uptoBulk d + 1
  | (_, d) => uptoBulk d + 1
 end
def uptoSmall : (H : Type) → List (DataW H) → Bool := fun _ ds => decide (uptoBulkAll ds ≤ 1048576)
def OpenSpec.upto (s : _root_.Go.ChangeSpec) : _root_.Go.OpenSpec := { _root_.Go.OpenSpec.ofChange s with cond := some uptoSmall }

/-- 'stelelaw58.ReconcileAnswer', WHERE WHAT IT READS IS OF BULK AT MOST 1048576: true; the input reads as it did. -/
def reconcileAnswerUptoRow : OpenClaim := { program := "ytnllocghmnhooaadoor", sum := "2c339b0819d804f093159c86c16f7573039628379c4c34f416d466138d7bbea6", func := "stele/stelelaw58.ReconcileAnswer", spec := "reconcileAnswer", inPlace := ["internal/abi.NoEscape", "internal/bytealg.MakeNoZero", "slices.overlaps[stele/api.Record]"], unfollowed := true, recurses := true, named := ["internal/strconv.uint64pow10", "math/bits.deBruijn32tab", "math/bits.deBruijn64tab"], apart := false, laid := [("math/bits.deBruijn32tab", laid_math_bits_deBruijn32tab), ("math/bits.deBruijn64tab", laid_math_bits_deBruijn64tab), ("internal/strconv.uint64pow10", laid_internal_strconv_uint64pow10)], narrowed := true }
def ReconcileAnswerUptoSaid : Prop := reconcileAnswerUptoRow.holds Tryd.pinned (OpenSpec.upto reconcileAnswerSpec)

/-- 'stelelaw58.ReconcileSync', WHERE WHAT IT READS IS OF BULK AT MOST 1048576: true; the input reads as it did. -/
def reconcileSyncUptoRow : OpenClaim := { program := "ytnllocghmnhooaadoor", sum := "2c339b0819d804f093159c86c16f7573039628379c4c34f416d466138d7bbea6", func := "stele/stelelaw58.ReconcileSync", spec := "reconcileSync", inPlace := ["internal/abi.NoEscape", "internal/bytealg.MakeNoZero", "slices.overlaps[stele/api.Record]"], unfollowed := true, recurses := true, named := ["internal/strconv.uint64pow10", "math/bits.deBruijn32tab", "math/bits.deBruijn64tab"], apart := false, laid := [("math/bits.deBruijn32tab", laid_math_bits_deBruijn32tab), ("math/bits.deBruijn64tab", laid_math_bits_deBruijn64tab), ("internal/strconv.uint64pow10", laid_internal_strconv_uint64pow10)], narrowed := true }
def ReconcileSyncUptoSaid : Prop := reconcileSyncUptoRow.holds Tryd.pinned (OpenSpec.upto reconcileSyncSpec)

/-- 'stelelaw58.ReconcileAgreement', WHERE WHAT IT READS IS OF BULK AT MOST 1048576: true; the input reads as it did. -/
def reconcileAgreementUptoRow : OpenClaim := { program := "ytnllocghmnhooaadoor", sum := "2c339b0819d804f093159c86c16f7573039628379c4c34f416d466138d7bbea6", func := "stele/stelelaw58.ReconcileAgreement", spec := "reconcileAgreement", inPlace := ["internal/abi.NoEscape", "internal/bytealg.MakeNoZero", "slices.overlaps[stele/api.Record]"], unfollowed := true, recurses := true, named := ["internal/strconv.uint64pow10", "math/bits.deBruijn32tab", "math/bits.deBruijn64tab"], apart := false, laid := [("math/bits.deBruijn32tab", laid_math_bits_deBruijn32tab), ("math/bits.deBruijn64tab", laid_math_bits_deBruijn64tab), ("internal/strconv.uint64pow10", laid_internal_strconv_uint64pow10)], narrowed := true }
def ReconcileAgreementUptoSaid : Prop := reconcileAgreementUptoRow.holds Tryd.pinned (OpenSpec.upto reconcileAgreementSpec)

/-- 'stelelaw58.ReconcileEconomy', WHERE WHAT IT READS IS OF BULK AT MOST 1048576: true; the input reads as it did. -/
def reconcileEconomyUptoRow : OpenClaim := { program := "ytnllocghmnhooaadoor", sum := "2c339b0819d804f093159c86c16f7573039628379c4c34f416d466138d7bbea6", func := "stele/stelelaw58.ReconcileEconomy", spec := "reconcileEconomy", inPlace := ["internal/abi.NoEscape", "internal/bytealg.MakeNoZero", "slices.overlaps[stele/api.Record]"], unfollowed := true, recurses := true, named := ["internal/strconv.uint64pow10", "math/bits.deBruijn32tab", "math/bits.deBruijn64tab"], apart := false, laid := [("math/bits.deBruijn32tab", laid_math_bits_deBruijn32tab), ("math/bits.deBruijn64tab", laid_math_bits_deBruijn64tab), ("internal/strconv.uint64pow10", laid_internal_strconv_uint64pow10)], narrowed := true }
def ReconcileEconomyUptoSaid : Prop := reconcileEconomyUptoRow.holds Tryd.pinned (OpenSpec.upto reconcileEconomySpec)

/-- 'stelelaw58.ReconcileConflicts', WHERE WHAT IT READS IS OF BULK AT MOST 1048576: true; the input reads as it did. -/
def reconcileConflictsUptoRow : OpenClaim := { program := "ytnllocghmnhooaadoor", sum := "2c339b0819d804f093159c86c16f7573039628379c4c34f416d466138d7bbea6", func := "stele/stelelaw58.ReconcileConflicts", spec := "reconcileConflicts", inPlace := ["internal/abi.NoEscape", "internal/bytealg.MakeNoZero", "slices.overlaps[stele/api.Record]"], unfollowed := true, recurses := true, named := ["internal/strconv.uint64pow10", "math/bits.deBruijn32tab", "math/bits.deBruijn64tab"], apart := false, laid := [("math/bits.deBruijn32tab", laid_math_bits_deBruijn32tab), ("math/bits.deBruijn64tab", laid_math_bits_deBruijn64tab), ("internal/strconv.uint64pow10", laid_internal_strconv_uint64pow10)], narrowed := true }
def ReconcileConflictsUptoSaid : Prop := reconcileConflictsUptoRow.holds Tryd.pinned (OpenSpec.upto reconcileConflictsSpec)

/-- 'stelelaw58.ReconcileExchange', WHERE WHAT IT READS IS OF BULK AT MOST 1048576: true; the input reads as it did. -/
def reconcileExchangeUptoRow : OpenClaim := { program := "ytnllocghmnhooaadoor", sum := "2c339b0819d804f093159c86c16f7573039628379c4c34f416d466138d7bbea6", func := "stele/stelelaw58.ReconcileExchange", spec := "reconcileExchange", inPlace := ["internal/abi.NoEscape", "internal/bytealg.MakeNoZero", "slices.overlaps[stele/api.Record]"], unfollowed := true, recurses := true, named := ["internal/strconv.uint64pow10", "math/bits.deBruijn32tab", "math/bits.deBruijn64tab"], apart := false, laid := [("math/bits.deBruijn32tab", laid_math_bits_deBruijn32tab), ("math/bits.deBruijn64tab", laid_math_bits_deBruijn64tab), ("internal/strconv.uint64pow10", laid_internal_strconv_uint64pow10)], narrowed := true }
def ReconcileExchangeUptoSaid : Prop := reconcileExchangeUptoRow.holds Tryd.pinned (OpenSpec.upto reconcileExchangeSpec)

/-- 'stelelaw58.ReconcileRenaming', WHERE WHAT IT READS IS OF BULK AT MOST 1048576: true; the input reads as it did. -/
def reconcileRenamingUptoRow : OpenClaim := { program := "ytnllocghmnhooaadoor", sum := "2c339b0819d804f093159c86c16f7573039628379c4c34f416d466138d7bbea6", func := "stele/stelelaw58.ReconcileRenaming", spec := "reconcileRenaming", inPlace := ["internal/abi.NoEscape", "internal/bytealg.MakeNoZero", "slices.overlaps[stele/api.Record]"], unfollowed := true, recurses := true, named := ["internal/strconv.uint64pow10", "math/bits.deBruijn32tab", "math/bits.deBruijn64tab"], apart := false, laid := [("math/bits.deBruijn32tab", laid_math_bits_deBruijn32tab), ("math/bits.deBruijn64tab", laid_math_bits_deBruijn64tab), ("internal/strconv.uint64pow10", laid_internal_strconv_uint64pow10)], narrowed := true }
def ReconcileRenamingUptoSaid : Prop := reconcileRenamingUptoRow.holds Tryd.pinned (OpenSpec.upto reconcileRenamingSpec)

/-- 'stelelaw58.ReconcileUnion', WHERE WHAT IT READS IS OF BULK AT MOST 1048576: true; the input reads as it did. -/
def reconcileUnionUptoRow : OpenClaim := { program := "ytnllocghmnhooaadoor", sum := "2c339b0819d804f093159c86c16f7573039628379c4c34f416d466138d7bbea6", func := "stele/stelelaw58.ReconcileUnion", spec := "reconcileUnion", inPlace := ["internal/abi.NoEscape", "internal/bytealg.MakeNoZero", "slices.overlaps[stele/api.Record]"], unfollowed := true, recurses := true, named := ["internal/strconv.uint64pow10", "math/bits.deBruijn32tab", "math/bits.deBruijn64tab"], apart := false, laid := [("math/bits.deBruijn32tab", laid_math_bits_deBruijn32tab), ("math/bits.deBruijn64tab", laid_math_bits_deBruijn64tab), ("internal/strconv.uint64pow10", laid_internal_strconv_uint64pow10)], narrowed := true }
def ReconcileUnionUptoSaid : Prop := reconcileUnionUptoRow.holds Tryd.pinned (OpenSpec.upto reconcileUnionSpec)

end Rows
end Go.Proofs.YtnllocghmnhooaaDoor
