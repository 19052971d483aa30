/-
  NARROWER THAN 'FOR EVERY INPUT', by the rows' own cells (each row's printed sentence says how): WotsKeys: laid · WotsRecovers: laid · WotsRoundTrip: laid · WotsChecksum: laid · WotsForgery: laid · WotsDeterministic: laid · WotsChains: laid.
  DERIVED. THE GIVEN ROWS OF THIS SEAT. 7 by the template 'for every input the law returns true; each argument reads behind the call as it read before'; 0 by the template 'total and deterministic' (their statements: YtlfpppffjedngaaDoorTotals.lean).
  GIVEN WITH THE SEED: the statements are not yours to turn. If you find one false, say at which input.
  Laid BY PROGRAM, IN A SANDBOX (cutbox-rows.mjs): the forced cells as the released guide's own fill.sh prints them over the translation b2fb2e1b0b3c1304… (all of the seat's roots in one cut). By AI agents, Wed Nov 11 2026. No macro, syntax, notation, axiom, sorry.
-/
import Derived.Test.YtlfpppffjedngaaDoorChecked
import GoSem.Claim
import GoSem.ClaimJoined
import GoSem.ClaimMapViews
import Derived.JoinedTies
import Derived.KernelRfl
namespace Go.Proofs.YtlfpppffjedngaaDoor
/- THE CELL 'sum', in the pinned program and in every row, IS THE sha256 OF THE DUMP (.gsa) THAT YtlfpppffjedngaaDoorProg.lean LOADS. Nothing in Lean hashes anything: it is a label: what it is worth is what the hold of that sum in a sandbox is worth. -/
noncomputable def Tryd.pinned : Pinned := { name := "ytlfpppffjedngaadoor", sum := "b2fb2e1b0b3c1304faa9def9493f09c5106e7776e3414ff7e705eb16e13b6f9b", checked := Tryd.checked }
namespace Rows
def none {H : Type} : Left H := { results := [], args := [] }

/- WHAT THE LISTED PACKAGE-LEVEL VARIABLES READ AS WHEN THE CALL BEGINS. Each datum BY PROGRAM (the guide's laid-datum.mjs) off the statement by which the dump's own 'gosem.cut.vars' lays the variable. In a bare row this is a premise. The card (YtlfpppffjedngaaDoorCards.lean) ties it to the program's text. -/
def laid_math_bits_deBruijn32tab {H : Type} : DataW H := .agg [.lit (.int .u8 0), .lit (.int .u8 1), .lit (.int .u8 28), .lit (.int .u8 2), .lit (.int .u8 29), .lit (.int .u8 14), .lit (.int .u8 24), .lit (.int .u8 3), .lit (.int .u8 30), .lit (.int .u8 22), .lit (.int .u8 20), .lit (.int .u8 15), .lit (.int .u8 25), .lit (.int .u8 17), .lit (.int .u8 4), .lit (.int .u8 8), .lit (.int .u8 31), .lit (.int .u8 27), .lit (.int .u8 13), .lit (.int .u8 23), .lit (.int .u8 21), .lit (.int .u8 19), .lit (.int .u8 16), .lit (.int .u8 7), .lit (.int .u8 26), .lit (.int .u8 12), .lit (.int .u8 18), .lit (.int .u8 6), .lit (.int .u8 11), .lit (.int .u8 5), .lit (.int .u8 10), .lit (.int .u8 9)]
def laid_math_bits_deBruijn64tab {H : Type} : DataW H := .agg [.lit (.int .u8 0), .lit (.int .u8 1), .lit (.int .u8 56), .lit (.int .u8 2), .lit (.int .u8 57), .lit (.int .u8 49), .lit (.int .u8 28), .lit (.int .u8 3), .lit (.int .u8 61), .lit (.int .u8 58), .lit (.int .u8 42), .lit (.int .u8 50), .lit (.int .u8 38), .lit (.int .u8 29), .lit (.int .u8 17), .lit (.int .u8 4), .lit (.int .u8 62), .lit (.int .u8 47), .lit (.int .u8 59), .lit (.int .u8 36), .lit (.int .u8 45), .lit (.int .u8 43), .lit (.int .u8 51), .lit (.int .u8 22), .lit (.int .u8 53), .lit (.int .u8 39), .lit (.int .u8 33), .lit (.int .u8 30), .lit (.int .u8 24), .lit (.int .u8 18), .lit (.int .u8 12), .lit (.int .u8 5), .lit (.int .u8 63), .lit (.int .u8 55), .lit (.int .u8 48), .lit (.int .u8 27), .lit (.int .u8 60), .lit (.int .u8 41), .lit (.int .u8 37), .lit (.int .u8 16), .lit (.int .u8 46), .lit (.int .u8 35), .lit (.int .u8 44), .lit (.int .u8 21), .lit (.int .u8 52), .lit (.int .u8 32), .lit (.int .u8 23), .lit (.int .u8 11), .lit (.int .u8 54), .lit (.int .u8 26), .lit (.int .u8 40), .lit (.int .u8 15), .lit (.int .u8 34), .lit (.int .u8 20), .lit (.int .u8 31), .lit (.int .u8 10), .lit (.int .u8 25), .lit (.int .u8 14), .lit (.int .u8 19), .lit (.int .u8 9), .lit (.int .u8 13), .lit (.int .u8 8), .lit (.int .u8 7), .lit (.int .u8 6)]
def laid_internal_strconv_uint64pow10 {H : Type} : DataW H := .agg [.lit (.int .u64 1), .lit (.int .u64 10), .lit (.int .u64 100), .lit (.int .u64 1000), .lit (.int .u64 10000), .lit (.int .u64 100000), .lit (.int .u64 1000000), .lit (.int .u64 10000000), .lit (.int .u64 100000000), .lit (.int .u64 1000000000), .lit (.int .u64 10000000000), .lit (.int .u64 100000000000), .lit (.int .u64 1000000000000), .lit (.int .u64 10000000000000), .lit (.int .u64 100000000000000), .lit (.int .u64 1000000000000000), .lit (.int .u64 10000000000000000), .lit (.int .u64 100000000000000000), .lit (.int .u64 1000000000000000000), .lit (.int .u64 10000000000000000000)]

/-- 'stelelaw29.WotsKeys': WHATEVER THE INPUT: true; the input reads as it did. -/
def wotsKeysSpec : ChangeSpec := { name := "wotsKeys", fn := fun _ => fun
  | [d1, d2, d3] => { results := [.lit (.bool true)], args := [d1, d2, d3] }
  | _ => none }
def wotsKeysRow : OpenClaim := { program := "ytlfpppffjedngaadoor", sum := "b2fb2e1b0b3c1304faa9def9493f09c5106e7776e3414ff7e705eb16e13b6f9b", func := "stele/stelelaw29.WotsKeys", spec := "wotsKeys", inPlace := ["internal/abi.NoEscape", "internal/bytealg.MakeNoZero"], unfollowed := true, recurses := true, named := ["internal/strconv.uint64pow10", "math/bits.deBruijn32tab", "math/bits.deBruijn64tab"], apart := false, laid := [("math/bits.deBruijn32tab", laid_math_bits_deBruijn32tab), ("math/bits.deBruijn64tab", laid_math_bits_deBruijn64tab), ("internal/strconv.uint64pow10", laid_internal_strconv_uint64pow10)] }
def WotsKeysSaid : Prop := wotsKeysRow.holds Tryd.pinned (OpenSpec.ofChange wotsKeysSpec)

/-- ITS FALSE NEIGHBOUR: 'it returns false'. Refute it at one input. -/
def wotsKeysWrong : ChangeSpec := { name := "wotsKeys", fn := fun _ => fun
  | [d1, d2, d3] => { results := [.lit (.bool false)], args := [d1, d2, d3] }
  | _ => none }
def WotsKeysWrongFalsely : Prop := wotsKeysRow.holds Tryd.pinned (OpenSpec.ofChange wotsKeysWrong)

/-- 'stelelaw29.WotsRecovers': WHATEVER THE INPUT: true; the input reads as it did. -/
def wotsRecoversSpec : ChangeSpec := { name := "wotsRecovers", fn := fun _ => fun
  | [d1, d2] => { results := [.lit (.bool true)], args := [d1, d2] }
  | _ => none }
def wotsRecoversRow : OpenClaim := { program := "ytlfpppffjedngaadoor", sum := "b2fb2e1b0b3c1304faa9def9493f09c5106e7776e3414ff7e705eb16e13b6f9b", func := "stele/stelelaw29.WotsRecovers", spec := "wotsRecovers", inPlace := ["internal/abi.NoEscape", "internal/bytealg.MakeNoZero"], unfollowed := true, recurses := true, named := ["internal/strconv.uint64pow10", "math/bits.deBruijn32tab", "math/bits.deBruijn64tab"], apart := false, laid := [("math/bits.deBruijn32tab", laid_math_bits_deBruijn32tab), ("math/bits.deBruijn64tab", laid_math_bits_deBruijn64tab), ("internal/strconv.uint64pow10", laid_internal_strconv_uint64pow10)] }
def WotsRecoversSaid : Prop := wotsRecoversRow.holds Tryd.pinned (OpenSpec.ofChange wotsRecoversSpec)

/-- ITS FALSE NEIGHBOUR: 'it returns false'. Refute it at one input. -/
def wotsRecoversWrong : ChangeSpec := { name := "wotsRecovers", fn := fun _ => fun
  | [d1, d2] => { results := [.lit (.bool false)], args := [d1, d2] }
  | _ => none }
def WotsRecoversWrongFalsely : Prop := wotsRecoversRow.holds Tryd.pinned (OpenSpec.ofChange wotsRecoversWrong)

/-- 'stelelaw29.WotsRoundTrip': WHATEVER THE INPUT: true; the input reads as it did. -/
def wotsRoundTripSpec : ChangeSpec := { name := "wotsRoundTrip", fn := fun _ => fun
  | [d1, d2, d3] => { results := [.lit (.bool true)], args := [d1, d2, d3] }
  | _ => none }
def wotsRoundTripRow : OpenClaim := { program := "ytlfpppffjedngaadoor", sum := "b2fb2e1b0b3c1304faa9def9493f09c5106e7776e3414ff7e705eb16e13b6f9b", func := "stele/stelelaw29.WotsRoundTrip", spec := "wotsRoundTrip", inPlace := ["internal/abi.NoEscape", "internal/bytealg.MakeNoZero"], unfollowed := true, recurses := true, named := ["internal/strconv.uint64pow10", "math/bits.deBruijn32tab", "math/bits.deBruijn64tab"], apart := false, laid := [("math/bits.deBruijn32tab", laid_math_bits_deBruijn32tab), ("math/bits.deBruijn64tab", laid_math_bits_deBruijn64tab), ("internal/strconv.uint64pow10", laid_internal_strconv_uint64pow10)] }
def WotsRoundTripSaid : Prop := wotsRoundTripRow.holds Tryd.pinned (OpenSpec.ofChange wotsRoundTripSpec)

/-- ITS FALSE NEIGHBOUR: 'it returns false'. Refute it at one input. -/
def wotsRoundTripWrong : ChangeSpec := { name := "wotsRoundTrip", fn := fun _ => fun
  | [d1, d2, d3] => { results := [.lit (.bool false)], args := [d1, d2, d3] }
  | _ => none }
def WotsRoundTripWrongFalsely : Prop := wotsRoundTripRow.holds Tryd.pinned (OpenSpec.ofChange wotsRoundTripWrong)

/-- 'stelelaw29.WotsChecksum': WHATEVER THE INPUT: true; the input reads as it did. -/
def wotsChecksumSpec : ChangeSpec := { name := "wotsChecksum", fn := fun _ => fun
  | [d1, d2] => { results := [.lit (.bool true)], args := [d1, d2] }
  | _ => none }
def wotsChecksumRow : OpenClaim := { program := "ytlfpppffjedngaadoor", sum := "b2fb2e1b0b3c1304faa9def9493f09c5106e7776e3414ff7e705eb16e13b6f9b", func := "stele/stelelaw29.WotsChecksum", spec := "wotsChecksum", inPlace := ["internal/abi.NoEscape", "internal/bytealg.MakeNoZero"], unfollowed := true, recurses := true, named := ["internal/strconv.uint64pow10", "math/bits.deBruijn32tab", "math/bits.deBruijn64tab"], apart := false, laid := [("math/bits.deBruijn32tab", laid_math_bits_deBruijn32tab), ("math/bits.deBruijn64tab", laid_math_bits_deBruijn64tab), ("internal/strconv.uint64pow10", laid_internal_strconv_uint64pow10)] }
def WotsChecksumSaid : Prop := wotsChecksumRow.holds Tryd.pinned (OpenSpec.ofChange wotsChecksumSpec)

/-- ITS FALSE NEIGHBOUR: 'it returns false'. Refute it at one input. -/
def wotsChecksumWrong : ChangeSpec := { name := "wotsChecksum", fn := fun _ => fun
  | [d1, d2] => { results := [.lit (.bool false)], args := [d1, d2] }
  | _ => none }
def WotsChecksumWrongFalsely : Prop := wotsChecksumRow.holds Tryd.pinned (OpenSpec.ofChange wotsChecksumWrong)

/-- 'stelelaw29.WotsForgery': WHATEVER THE INPUT: true; the input reads as it did. -/
def wotsForgerySpec : ChangeSpec := { name := "wotsForgery", fn := fun _ => fun
  | [d1, d2, d3] => { results := [.lit (.bool true)], args := [d1, d2, d3] }
  | _ => none }
def wotsForgeryRow : OpenClaim := { program := "ytlfpppffjedngaadoor", sum := "b2fb2e1b0b3c1304faa9def9493f09c5106e7776e3414ff7e705eb16e13b6f9b", func := "stele/stelelaw29.WotsForgery", spec := "wotsForgery", inPlace := ["internal/abi.NoEscape", "internal/bytealg.MakeNoZero"], unfollowed := true, recurses := true, named := ["internal/strconv.uint64pow10", "math/bits.deBruijn32tab", "math/bits.deBruijn64tab"], apart := false, laid := [("math/bits.deBruijn32tab", laid_math_bits_deBruijn32tab), ("math/bits.deBruijn64tab", laid_math_bits_deBruijn64tab), ("internal/strconv.uint64pow10", laid_internal_strconv_uint64pow10)] }
def WotsForgerySaid : Prop := wotsForgeryRow.holds Tryd.pinned (OpenSpec.ofChange wotsForgerySpec)

/-- ITS FALSE NEIGHBOUR: 'it returns false'. Refute it at one input. -/
def wotsForgeryWrong : ChangeSpec := { name := "wotsForgery", fn := fun _ => fun
  | [d1, d2, d3] => { results := [.lit (.bool false)], args := [d1, d2, d3] }
  | _ => none }
def WotsForgeryWrongFalsely : Prop := wotsForgeryRow.holds Tryd.pinned (OpenSpec.ofChange wotsForgeryWrong)

/-- 'stelelaw29.WotsDeterministic': WHATEVER THE INPUT: true; the input reads as it did. -/
def wotsDeterministicSpec : ChangeSpec := { name := "wotsDeterministic", fn := fun _ => fun
  | [d1, d2, d3] => { results := [.lit (.bool true)], args := [d1, d2, d3] }
  | _ => none }
def wotsDeterministicRow : OpenClaim := { program := "ytlfpppffjedngaadoor", sum := "b2fb2e1b0b3c1304faa9def9493f09c5106e7776e3414ff7e705eb16e13b6f9b", func := "stele/stelelaw29.WotsDeterministic", spec := "wotsDeterministic", inPlace := ["internal/abi.NoEscape", "internal/bytealg.MakeNoZero"], unfollowed := true, recurses := true, named := ["internal/strconv.uint64pow10", "math/bits.deBruijn32tab", "math/bits.deBruijn64tab"], apart := false, laid := [("math/bits.deBruijn32tab", laid_math_bits_deBruijn32tab), ("math/bits.deBruijn64tab", laid_math_bits_deBruijn64tab), ("internal/strconv.uint64pow10", laid_internal_strconv_uint64pow10)] }
def WotsDeterministicSaid : Prop := wotsDeterministicRow.holds Tryd.pinned (OpenSpec.ofChange wotsDeterministicSpec)

/-- ITS FALSE NEIGHBOUR: 'it returns false'. Refute it at one input. -/
def wotsDeterministicWrong : ChangeSpec := { name := "wotsDeterministic", fn := fun _ => fun
  | [d1, d2, d3] => { results := [.lit (.bool false)], args := [d1, d2, d3] }
  | _ => none }
def WotsDeterministicWrongFalsely : Prop := wotsDeterministicRow.holds Tryd.pinned (OpenSpec.ofChange wotsDeterministicWrong)

/-- 'stelelaw29.WotsChains': WHATEVER THE INPUT: true; the input reads as it did. -/
def wotsChainsSpec : ChangeSpec := { name := "wotsChains", fn := fun _ => fun
  | [d1, d2, d3] => { results := [.lit (.bool true)], args := [d1, d2, d3] }
  | _ => none }
def wotsChainsRow : OpenClaim := { program := "ytlfpppffjedngaadoor", sum := "b2fb2e1b0b3c1304faa9def9493f09c5106e7776e3414ff7e705eb16e13b6f9b", func := "stele/stelelaw29.WotsChains", spec := "wotsChains", inPlace := ["internal/abi.NoEscape", "internal/bytealg.MakeNoZero"], unfollowed := true, recurses := true, named := ["internal/strconv.uint64pow10", "math/bits.deBruijn32tab", "math/bits.deBruijn64tab"], apart := false, laid := [("math/bits.deBruijn32tab", laid_math_bits_deBruijn32tab), ("math/bits.deBruijn64tab", laid_math_bits_deBruijn64tab), ("internal/strconv.uint64pow10", laid_internal_strconv_uint64pow10)] }
def WotsChainsSaid : Prop := wotsChainsRow.holds Tryd.pinned (OpenSpec.ofChange wotsChainsSpec)

/-- ITS FALSE NEIGHBOUR: 'it returns false'. Refute it at one input. -/
def wotsChainsWrong : ChangeSpec := { name := "wotsChains", fn := fun _ => fun
  | [d1, d2, d3] => { results := [.lit (.bool false)], args := [d1, d2, d3] }
  | _ => none }
def WotsChainsWrongFalsely : Prop := wotsChainsRow.holds Tryd.pinned (OpenSpec.ofChange wotsChainsWrong)

/- THE SECOND FORM. 'bulk': how many values and letters a reading holds, each counted each time it is reached (what is shared counts as often as it is met; a slice's spare places count too). A statement '..UptoSaid' is the law's where the arguments, and the package variables that the reading takes, are together of bulk at most 1048576: NARROWER than '..Said'. Prove '..Said' where nothing that the law and all that it calls make is longer than what came in: it says more and counts as full. Else prove '..UptoSaid'. A law counts once. -/
mutual
def uptoBulk {H : Type} : DataW H → Nat
  | .lit (.string bytes) => bytes.length + 1
  | .lit _ => 1
  | .nil => 1
  | .ptr d => uptoBulk d + 1
  | .slice elems spare => uptoBulkAll elems + uptoBulkAll spare + 1
  | .agg parts => uptoBulkAll parts + 1
  | .iface _ d => uptoBulk d + 1
  | .map entries => uptoBulkEntries entries + 1
  | .held _ => 1
def uptoBulkAll {H : Type} : List (DataW H) → Nat
  | [] => 0
  | d :: r => uptoBulk d + uptoBulkAll r
def uptoBulkEntries {H : Type} : List (Lit × DataW H) → Nat
  | [] => 0
  | x :: r => uptoBulkEntry x + uptoBulkEntries r
def uptoBulkEntry {H : Type} : Lit × DataW H → Nat
  | (.string bytes, d) => bytes.length + uptoBulk d + 1
  | (_, d) => uptoBulk d + 1
 end
def uptoSmall : (H : Type) → List (DataW H) → Bool := fun _ ds => decide (uptoBulkAll ds ≤ 1048576)
def OpenSpec.upto (s : _root_.Go.ChangeSpec) : _root_.Go.OpenSpec := { _root_.Go.OpenSpec.ofChange s with cond := some uptoSmall }

/-- 'stelelaw29.WotsKeys', WHERE WHAT IT READS IS OF BULK AT MOST 1048576: true; the input reads as it did. -/
def wotsKeysUptoRow : OpenClaim := { program := "ytlfpppffjedngaadoor", sum := "b2fb2e1b0b3c1304faa9def9493f09c5106e7776e3414ff7e705eb16e13b6f9b", func := "stele/stelelaw29.WotsKeys", spec := "wotsKeys", inPlace := ["internal/abi.NoEscape", "internal/bytealg.MakeNoZero"], unfollowed := true, recurses := true, named := ["internal/strconv.uint64pow10", "math/bits.deBruijn32tab", "math/bits.deBruijn64tab"], apart := false, laid := [("math/bits.deBruijn32tab", laid_math_bits_deBruijn32tab), ("math/bits.deBruijn64tab", laid_math_bits_deBruijn64tab), ("internal/strconv.uint64pow10", laid_internal_strconv_uint64pow10)], narrowed := true }
def WotsKeysUptoSaid : Prop := wotsKeysUptoRow.holds Tryd.pinned (OpenSpec.upto wotsKeysSpec)

/-- 'stelelaw29.WotsRecovers', WHERE WHAT IT READS IS OF BULK AT MOST 1048576: true; the input reads as it did. -/
def wotsRecoversUptoRow : OpenClaim := { program := "ytlfpppffjedngaadoor", sum := "b2fb2e1b0b3c1304faa9def9493f09c5106e7776e3414ff7e705eb16e13b6f9b", func := "stele/stelelaw29.WotsRecovers", spec := "wotsRecovers", inPlace := ["internal/abi.NoEscape", "internal/bytealg.MakeNoZero"], unfollowed := true, recurses := true, named := ["internal/strconv.uint64pow10", "math/bits.deBruijn32tab", "math/bits.deBruijn64tab"], apart := false, laid := [("math/bits.deBruijn32tab", laid_math_bits_deBruijn32tab), ("math/bits.deBruijn64tab", laid_math_bits_deBruijn64tab), ("internal/strconv.uint64pow10", laid_internal_strconv_uint64pow10)], narrowed := true }
def WotsRecoversUptoSaid : Prop := wotsRecoversUptoRow.holds Tryd.pinned (OpenSpec.upto wotsRecoversSpec)

/-- 'stelelaw29.WotsRoundTrip', WHERE WHAT IT READS IS OF BULK AT MOST 1048576: true; the input reads as it did. -/
def wotsRoundTripUptoRow : OpenClaim := { program := "ytlfpppffjedngaadoor", sum := "b2fb2e1b0b3c1304faa9def9493f09c5106e7776e3414ff7e705eb16e13b6f9b", func := "stele/stelelaw29.WotsRoundTrip", spec := "wotsRoundTrip", inPlace := ["internal/abi.NoEscape", "internal/bytealg.MakeNoZero"], unfollowed := true, recurses := true, named := ["internal/strconv.uint64pow10", "math/bits.deBruijn32tab", "math/bits.deBruijn64tab"], apart := false, laid := [("math/bits.deBruijn32tab", laid_math_bits_deBruijn32tab), ("math/bits.deBruijn64tab", laid_math_bits_deBruijn64tab), ("internal/strconv.uint64pow10", laid_internal_strconv_uint64pow10)], narrowed := true }
def WotsRoundTripUptoSaid : Prop := wotsRoundTripUptoRow.holds Tryd.pinned (OpenSpec.upto wotsRoundTripSpec)

/-- 'stelelaw29.WotsChecksum', WHERE WHAT IT READS IS OF BULK AT MOST 1048576: true; the input reads as it did. -/
def wotsChecksumUptoRow : OpenClaim := { program := "ytlfpppffjedngaadoor", sum := "b2fb2e1b0b3c1304faa9def9493f09c5106e7776e3414ff7e705eb16e13b6f9b", func := "stele/stelelaw29.WotsChecksum", spec := "wotsChecksum", inPlace := ["internal/abi.NoEscape", "internal/bytealg.MakeNoZero"], unfollowed := true, recurses := true, named := ["internal/strconv.uint64pow10", "math/bits.deBruijn32tab", "math/bits.deBruijn64tab"], apart := false, laid := [("math/bits.deBruijn32tab", laid_math_bits_deBruijn32tab), ("math/bits.deBruijn64tab", laid_math_bits_deBruijn64tab), ("internal/strconv.uint64pow10", laid_internal_strconv_uint64pow10)], narrowed := true }
def WotsChecksumUptoSaid : Prop := wotsChecksumUptoRow.holds Tryd.pinned (OpenSpec.upto wotsChecksumSpec)

/-- 'stelelaw29.WotsForgery', WHERE WHAT IT READS IS OF BULK AT MOST 1048576: true; the input reads as it did. -/
def wotsForgeryUptoRow : OpenClaim := { program := "ytlfpppffjedngaadoor", sum := "b2fb2e1b0b3c1304faa9def9493f09c5106e7776e3414ff7e705eb16e13b6f9b", func := "stele/stelelaw29.WotsForgery", spec := "wotsForgery", inPlace := ["internal/abi.NoEscape", "internal/bytealg.MakeNoZero"], unfollowed := true, recurses := true, named := ["internal/strconv.uint64pow10", "math/bits.deBruijn32tab", "math/bits.deBruijn64tab"], apart := false, laid := [("math/bits.deBruijn32tab", laid_math_bits_deBruijn32tab), ("math/bits.deBruijn64tab", laid_math_bits_deBruijn64tab), ("internal/strconv.uint64pow10", laid_internal_strconv_uint64pow10)], narrowed := true }
def WotsForgeryUptoSaid : Prop := wotsForgeryUptoRow.holds Tryd.pinned (OpenSpec.upto wotsForgerySpec)

/-- 'stelelaw29.WotsDeterministic', WHERE WHAT IT READS IS OF BULK AT MOST 1048576: true; the input reads as it did. -/
def wotsDeterministicUptoRow : OpenClaim := { program := "ytlfpppffjedngaadoor", sum := "b2fb2e1b0b3c1304faa9def9493f09c5106e7776e3414ff7e705eb16e13b6f9b", func := "stele/stelelaw29.WotsDeterministic", spec := "wotsDeterministic", inPlace := ["internal/abi.NoEscape", "internal/bytealg.MakeNoZero"], unfollowed := true, recurses := true, named := ["internal/strconv.uint64pow10", "math/bits.deBruijn32tab", "math/bits.deBruijn64tab"], apart := false, laid := [("math/bits.deBruijn32tab", laid_math_bits_deBruijn32tab), ("math/bits.deBruijn64tab", laid_math_bits_deBruijn64tab), ("internal/strconv.uint64pow10", laid_internal_strconv_uint64pow10)], narrowed := true }
def WotsDeterministicUptoSaid : Prop := wotsDeterministicUptoRow.holds Tryd.pinned (OpenSpec.upto wotsDeterministicSpec)

/-- 'stelelaw29.WotsChains', WHERE WHAT IT READS IS OF BULK AT MOST 1048576: true; the input reads as it did. -/
def wotsChainsUptoRow : OpenClaim := { program := "ytlfpppffjedngaadoor", sum := "b2fb2e1b0b3c1304faa9def9493f09c5106e7776e3414ff7e705eb16e13b6f9b", func := "stele/stelelaw29.WotsChains", spec := "wotsChains", inPlace := ["internal/abi.NoEscape", "internal/bytealg.MakeNoZero"], unfollowed := true, recurses := true, named := ["internal/strconv.uint64pow10", "math/bits.deBruijn32tab", "math/bits.deBruijn64tab"], apart := false, laid := [("math/bits.deBruijn32tab", laid_math_bits_deBruijn32tab), ("math/bits.deBruijn64tab", laid_math_bits_deBruijn64tab), ("internal/strconv.uint64pow10", laid_internal_strconv_uint64pow10)], narrowed := true }
def WotsChainsUptoSaid : Prop := wotsChainsUptoRow.holds Tryd.pinned (OpenSpec.upto wotsChainsSpec)

end Rows
end Go.Proofs.YtlfpppffjedngaaDoor
