/-
  NARROWER THAN 'FOR EVERY INPUT', by the rows' own cells (each row's printed sentence says how): PrefixBits: laid · PrefixStands: laid · PrefixHolds: laid · AddrParts: laid · AddrParses: laid · AddrTexts: laid · AddrEach: laid · PrefixTexts: laid · AddrHolds: laid · PrefixAround: laid.
  DERIVED. THE GIVEN ROWS OF THIS SEAT. 10 by the template 'for every input the law returns true; each argument reads behind the call as it read before'; 0 by the template 'total and deterministic' (their statements: YtmmoccceafcfkaaDoorTotals.lean).
  GIVEN WITH THE SEED: the statements are not yours to turn. If you find one false, say at which input.
  Laid BY PROGRAM, IN A SANDBOX (cutbox-rows.mjs): the forced cells as the released guide's own fill.sh prints them over the translation ca378859242fc657… (all of the seat's roots in one cut). By AI agents, Wed Nov 11 2026. No macro, syntax, notation, axiom, sorry.
-/
import Derived.Test.YtmmoccceafcfkaaDoorChecked
import GoSem.Claim
import GoSem.ClaimJoined
import GoSem.ClaimMapViews
import Derived.JoinedTies
import Derived.KernelRfl
namespace Go.Proofs.YtmmoccceafcfkaaDoor
/- THE CELL 'sum', in the pinned program and in every row, IS THE sha256 OF THE DUMP (.gsa) THAT YtmmoccceafcfkaaDoorProg.lean LOADS. Nothing in Lean hashes anything: it is a label: what it is worth is what the hold of that sum in a sandbox is worth. -/
noncomputable def Tryd.pinned : Pinned := { name := "ytmmoccceafcfkaadoor", sum := "ca378859242fc657ca09c7b5b4517513bf12940c4f28f79f20b4f6238ea981d9", checked := Tryd.checked }
namespace Rows
def none {H : Type} : Left H := { results := [], args := [] }

/- WHAT THE LISTED PACKAGE-LEVEL VARIABLES READ AS WHEN THE CALL BEGINS. Each datum BY PROGRAM (the guide's laid-datum.mjs) off the statement by which the dump's own 'gosem.cut.vars' lays the variable. In a bare row this is a premise. The card (YtmmoccceafcfkaaDoorCards.lean) ties it to the program's text. -/
def laid_waywarden_prefix_rels {H : Type} : DataW H := .agg [.agg [.lit (.int .i64 4), .lit (.int .i64 2)], .agg [.lit (.int .i64 3), .lit (.int .i64 1)]]
def laid_math_bits_deBruijn32tab {H : Type} : DataW H := .agg [.lit (.int .u8 0), .lit (.int .u8 1), .lit (.int .u8 28), .lit (.int .u8 2), .lit (.int .u8 29), .lit (.int .u8 14), .lit (.int .u8 24), .lit (.int .u8 3), .lit (.int .u8 30), .lit (.int .u8 22), .lit (.int .u8 20), .lit (.int .u8 15), .lit (.int .u8 25), .lit (.int .u8 17), .lit (.int .u8 4), .lit (.int .u8 8), .lit (.int .u8 31), .lit (.int .u8 27), .lit (.int .u8 13), .lit (.int .u8 23), .lit (.int .u8 21), .lit (.int .u8 19), .lit (.int .u8 16), .lit (.int .u8 7), .lit (.int .u8 26), .lit (.int .u8 12), .lit (.int .u8 18), .lit (.int .u8 6), .lit (.int .u8 11), .lit (.int .u8 5), .lit (.int .u8 10), .lit (.int .u8 9)]
def laid_math_bits_deBruijn64tab {H : Type} : DataW H := .agg [.lit (.int .u8 0), .lit (.int .u8 1), .lit (.int .u8 56), .lit (.int .u8 2), .lit (.int .u8 57), .lit (.int .u8 49), .lit (.int .u8 28), .lit (.int .u8 3), .lit (.int .u8 61), .lit (.int .u8 58), .lit (.int .u8 42), .lit (.int .u8 50), .lit (.int .u8 38), .lit (.int .u8 29), .lit (.int .u8 17), .lit (.int .u8 4), .lit (.int .u8 62), .lit (.int .u8 47), .lit (.int .u8 59), .lit (.int .u8 36), .lit (.int .u8 45), .lit (.int .u8 43), .lit (.int .u8 51), .lit (.int .u8 22), .lit (.int .u8 53), .lit (.int .u8 39), .lit (.int .u8 33), .lit (.int .u8 30), .lit (.int .u8 24), .lit (.int .u8 18), .lit (.int .u8 12), .lit (.int .u8 5), .lit (.int .u8 63), .lit (.int .u8 55), .lit (.int .u8 48), .lit (.int .u8 27), .lit (.int .u8 60), .lit (.int .u8 41), .lit (.int .u8 37), .lit (.int .u8 16), .lit (.int .u8 46), .lit (.int .u8 35), .lit (.int .u8 44), .lit (.int .u8 21), .lit (.int .u8 52), .lit (.int .u8 32), .lit (.int .u8 23), .lit (.int .u8 11), .lit (.int .u8 54), .lit (.int .u8 26), .lit (.int .u8 40), .lit (.int .u8 15), .lit (.int .u8 34), .lit (.int .u8 20), .lit (.int .u8 31), .lit (.int .u8 10), .lit (.int .u8 25), .lit (.int .u8 14), .lit (.int .u8 19), .lit (.int .u8 9), .lit (.int .u8 13), .lit (.int .u8 8), .lit (.int .u8 7), .lit (.int .u8 6)]
def laid_internal_strconv_uint64pow10 {H : Type} : DataW H := .agg [.lit (.int .u64 1), .lit (.int .u64 10), .lit (.int .u64 100), .lit (.int .u64 1000), .lit (.int .u64 10000), .lit (.int .u64 100000), .lit (.int .u64 1000000), .lit (.int .u64 10000000), .lit (.int .u64 100000000), .lit (.int .u64 1000000000), .lit (.int .u64 10000000000), .lit (.int .u64 100000000000), .lit (.int .u64 1000000000000), .lit (.int .u64 10000000000000), .lit (.int .u64 100000000000000), .lit (.int .u64 1000000000000000), .lit (.int .u64 10000000000000000), .lit (.int .u64 100000000000000000), .lit (.int .u64 1000000000000000000), .lit (.int .u64 10000000000000000000)]

/-- 'waywardenlaw02.PrefixBits': WHATEVER THE INPUT: true; the input reads as it did. -/
def prefixBitsSpec : ChangeSpec := { name := "prefixBits", fn := fun _ => fun
  | [d1, d2, d3] => { results := [.lit (.bool true)], args := [d1, d2, d3] }
  | _ => none }
def prefixBitsRow : OpenClaim := { program := "ytmmoccceafcfkaadoor", sum := "ca378859242fc657ca09c7b5b4517513bf12940c4f28f79f20b4f6238ea981d9", func := "waywarden/waywardenlaw02.PrefixBits", spec := "prefixBits", unfollowed := true, recurses := true, named := ["waywarden/prefix.rels"], apart := false, laid := [("waywarden/prefix.rels", laid_waywarden_prefix_rels)] }
def PrefixBitsSaid : Prop := prefixBitsRow.holds Tryd.pinned (OpenSpec.ofChange prefixBitsSpec)

/-- ITS FALSE NEIGHBOUR: 'it returns false'. Refute it at one input. -/
def prefixBitsWrong : ChangeSpec := { name := "prefixBits", fn := fun _ => fun
  | [d1, d2, d3] => { results := [.lit (.bool false)], args := [d1, d2, d3] }
  | _ => none }
def PrefixBitsWrongFalsely : Prop := prefixBitsRow.holds Tryd.pinned (OpenSpec.ofChange prefixBitsWrong)

/-- 'waywardenlaw02.PrefixStands': WHATEVER THE INPUT: true; the input reads as it did. -/
def prefixStandsSpec : ChangeSpec := { name := "prefixStands", fn := fun _ => fun
  | [d1, d2] => { results := [.lit (.bool true)], args := [d1, d2] }
  | _ => none }
def prefixStandsRow : OpenClaim := { program := "ytmmoccceafcfkaadoor", sum := "ca378859242fc657ca09c7b5b4517513bf12940c4f28f79f20b4f6238ea981d9", func := "waywarden/waywardenlaw02.PrefixStands", spec := "prefixStands", unfollowed := true, recurses := true, named := ["waywarden/prefix.rels"], apart := false, laid := [("waywarden/prefix.rels", laid_waywarden_prefix_rels)] }
def PrefixStandsSaid : Prop := prefixStandsRow.holds Tryd.pinned (OpenSpec.ofChange prefixStandsSpec)

/-- ITS FALSE NEIGHBOUR: 'it returns false'. Refute it at one input. -/
def prefixStandsWrong : ChangeSpec := { name := "prefixStands", fn := fun _ => fun
  | [d1, d2] => { results := [.lit (.bool false)], args := [d1, d2] }
  | _ => none }
def PrefixStandsWrongFalsely : Prop := prefixStandsRow.holds Tryd.pinned (OpenSpec.ofChange prefixStandsWrong)

/-- 'waywardenlaw02.PrefixHolds': WHATEVER THE INPUT: true; the input reads as it did. -/
def prefixHoldsSpec : ChangeSpec := { name := "prefixHolds", fn := fun _ => fun
  | [d1, d2, d3, d4] => { results := [.lit (.bool true)], args := [d1, d2, d3, d4] }
  | _ => none }
def prefixHoldsRow : OpenClaim := { program := "ytmmoccceafcfkaadoor", sum := "ca378859242fc657ca09c7b5b4517513bf12940c4f28f79f20b4f6238ea981d9", func := "waywarden/waywardenlaw02.PrefixHolds", spec := "prefixHolds", unfollowed := true, recurses := true, named := ["waywarden/prefix.rels"], apart := false, laid := [("waywarden/prefix.rels", laid_waywarden_prefix_rels)] }
def PrefixHoldsSaid : Prop := prefixHoldsRow.holds Tryd.pinned (OpenSpec.ofChange prefixHoldsSpec)

/-- ITS FALSE NEIGHBOUR: 'it returns false'. Refute it at one input. -/
def prefixHoldsWrong : ChangeSpec := { name := "prefixHolds", fn := fun _ => fun
  | [d1, d2, d3, d4] => { results := [.lit (.bool false)], args := [d1, d2, d3, d4] }
  | _ => none }
def PrefixHoldsWrongFalsely : Prop := prefixHoldsRow.holds Tryd.pinned (OpenSpec.ofChange prefixHoldsWrong)

/-- 'waywardenlaw01.AddrParts': WHATEVER THE INPUT: true; the input reads as it did. -/
def addrPartsSpec : ChangeSpec := { name := "addrParts", fn := fun _ => fun
  | [d1, d2] => { results := [.lit (.bool true)], args := [d1, d2] }
  | _ => none }
def addrPartsRow : OpenClaim := { program := "ytmmoccceafcfkaadoor", sum := "ca378859242fc657ca09c7b5b4517513bf12940c4f28f79f20b4f6238ea981d9", func := "waywarden/waywardenlaw01.AddrParts", spec := "addrParts", unfollowed := true, recurses := true, named := ["internal/strconv.uint64pow10", "math/bits.deBruijn32tab", "math/bits.deBruijn64tab"], apart := false, laid := [("math/bits.deBruijn32tab", laid_math_bits_deBruijn32tab), ("math/bits.deBruijn64tab", laid_math_bits_deBruijn64tab), ("internal/strconv.uint64pow10", laid_internal_strconv_uint64pow10)] }
def AddrPartsSaid : Prop := addrPartsRow.holds Tryd.pinned (OpenSpec.ofChange addrPartsSpec)

/-- ITS FALSE NEIGHBOUR: 'it returns false'. Refute it at one input. -/
def addrPartsWrong : ChangeSpec := { name := "addrParts", fn := fun _ => fun
  | [d1, d2] => { results := [.lit (.bool false)], args := [d1, d2] }
  | _ => none }
def AddrPartsWrongFalsely : Prop := addrPartsRow.holds Tryd.pinned (OpenSpec.ofChange addrPartsWrong)

/-- 'waywardenlaw01.AddrParses': WHATEVER THE INPUT: true; the input reads as it did. -/
def addrParsesSpec : ChangeSpec := { name := "addrParses", fn := fun _ => fun
  | [d] => { results := [.lit (.bool true)], args := [d] }
  | _ => none }
def addrParsesRow : OpenClaim := { program := "ytmmoccceafcfkaadoor", sum := "ca378859242fc657ca09c7b5b4517513bf12940c4f28f79f20b4f6238ea981d9", func := "waywarden/waywardenlaw01.AddrParses", spec := "addrParses", unfollowed := true, recurses := true, named := ["internal/strconv.uint64pow10", "math/bits.deBruijn32tab", "math/bits.deBruijn64tab"], apart := false, laid := [("math/bits.deBruijn32tab", laid_math_bits_deBruijn32tab), ("math/bits.deBruijn64tab", laid_math_bits_deBruijn64tab), ("internal/strconv.uint64pow10", laid_internal_strconv_uint64pow10)] }
def AddrParsesSaid : Prop := addrParsesRow.holds Tryd.pinned (OpenSpec.ofChange addrParsesSpec)

/-- ITS FALSE NEIGHBOUR: 'it returns false'. Refute it at one input. -/
def addrParsesWrong : ChangeSpec := { name := "addrParses", fn := fun _ => fun
  | [d] => { results := [.lit (.bool false)], args := [d] }
  | _ => none }
def AddrParsesWrongFalsely : Prop := addrParsesRow.holds Tryd.pinned (OpenSpec.ofChange addrParsesWrong)

/-- 'waywardenlaw01.AddrTexts': WHATEVER THE INPUT: true; the input reads as it did. -/
def addrTextsSpec : ChangeSpec := { name := "addrTexts", fn := fun _ => fun
  | [d] => { results := [.lit (.bool true)], args := [d] }
  | _ => none }
def addrTextsRow : OpenClaim := { program := "ytmmoccceafcfkaadoor", sum := "ca378859242fc657ca09c7b5b4517513bf12940c4f28f79f20b4f6238ea981d9", func := "waywarden/waywardenlaw01.AddrTexts", spec := "addrTexts", unfollowed := true, recurses := true, named := ["internal/strconv.uint64pow10", "math/bits.deBruijn32tab", "math/bits.deBruijn64tab"], apart := false, laid := [("math/bits.deBruijn32tab", laid_math_bits_deBruijn32tab), ("math/bits.deBruijn64tab", laid_math_bits_deBruijn64tab), ("internal/strconv.uint64pow10", laid_internal_strconv_uint64pow10)] }
def AddrTextsSaid : Prop := addrTextsRow.holds Tryd.pinned (OpenSpec.ofChange addrTextsSpec)

/-- ITS FALSE NEIGHBOUR: 'it returns false'. Refute it at one input. -/
def addrTextsWrong : ChangeSpec := { name := "addrTexts", fn := fun _ => fun
  | [d] => { results := [.lit (.bool false)], args := [d] }
  | _ => none }
def AddrTextsWrongFalsely : Prop := addrTextsRow.holds Tryd.pinned (OpenSpec.ofChange addrTextsWrong)

/-- 'waywardenlaw01.AddrEach': WHATEVER THE INPUT: true; the input reads as it did. -/
def addrEachSpec : ChangeSpec := { name := "addrEach", fn := fun _ => fun
  | [d1, d2] => { results := [.lit (.bool true)], args := [d1, d2] }
  | _ => none }
def addrEachRow : OpenClaim := { program := "ytmmoccceafcfkaadoor", sum := "ca378859242fc657ca09c7b5b4517513bf12940c4f28f79f20b4f6238ea981d9", func := "waywarden/waywardenlaw01.AddrEach", spec := "addrEach", inPlace := ["internal/bytealg.IndexByteString", "internal/bytealg.IndexString"], unfollowed := true, recurses := true, named := ["internal/strconv.uint64pow10", "math/bits.deBruijn32tab", "math/bits.deBruijn64tab", "internal/bytealg.MaxLen"], apart := false, laid := [("math/bits.deBruijn32tab", laid_math_bits_deBruijn32tab), ("math/bits.deBruijn64tab", laid_math_bits_deBruijn64tab), ("internal/strconv.uint64pow10", laid_internal_strconv_uint64pow10)] }
def AddrEachSaid : Prop := addrEachRow.holds Tryd.pinned (OpenSpec.ofChange addrEachSpec)

/-- ITS FALSE NEIGHBOUR: 'it returns false'. Refute it at one input. -/
def addrEachWrong : ChangeSpec := { name := "addrEach", fn := fun _ => fun
  | [d1, d2] => { results := [.lit (.bool false)], args := [d1, d2] }
  | _ => none }
def AddrEachWrongFalsely : Prop := addrEachRow.holds Tryd.pinned (OpenSpec.ofChange addrEachWrong)

/-- 'waywardenlaw02.PrefixTexts': WHATEVER THE INPUT: true; the input reads as it did. -/
def prefixTextsSpec : ChangeSpec := { name := "prefixTexts", fn := fun _ => fun
  | [d1, d2] => { results := [.lit (.bool true)], args := [d1, d2] }
  | _ => none }
def prefixTextsRow : OpenClaim := { program := "ytmmoccceafcfkaadoor", sum := "ca378859242fc657ca09c7b5b4517513bf12940c4f28f79f20b4f6238ea981d9", func := "waywarden/waywardenlaw02.PrefixTexts", spec := "prefixTexts", unfollowed := true, recurses := true, named := ["waywarden/prefix.rels", "internal/strconv.uint64pow10", "math/bits.deBruijn32tab", "math/bits.deBruijn64tab"], apart := false, laid := [("math/bits.deBruijn32tab", laid_math_bits_deBruijn32tab), ("math/bits.deBruijn64tab", laid_math_bits_deBruijn64tab), ("internal/strconv.uint64pow10", laid_internal_strconv_uint64pow10), ("waywarden/prefix.rels", laid_waywarden_prefix_rels)] }
def PrefixTextsSaid : Prop := prefixTextsRow.holds Tryd.pinned (OpenSpec.ofChange prefixTextsSpec)

/-- ITS FALSE NEIGHBOUR: 'it returns false'. Refute it at one input. -/
def prefixTextsWrong : ChangeSpec := { name := "prefixTexts", fn := fun _ => fun
  | [d1, d2] => { results := [.lit (.bool false)], args := [d1, d2] }
  | _ => none }
def PrefixTextsWrongFalsely : Prop := prefixTextsRow.holds Tryd.pinned (OpenSpec.ofChange prefixTextsWrong)

/-- 'waywardenlaw01.AddrHolds': WHATEVER THE INPUT: true; the input reads as it did. -/
def addrHoldsSpec : ChangeSpec := { name := "addrHolds", fn := fun _ => fun
  | [d1, d2] => { results := [.lit (.bool true)], args := [d1, d2] }
  | _ => none }
def addrHoldsRow : OpenClaim := { program := "ytmmoccceafcfkaadoor", sum := "ca378859242fc657ca09c7b5b4517513bf12940c4f28f79f20b4f6238ea981d9", func := "waywarden/waywardenlaw01.AddrHolds", spec := "addrHolds", inPlace := ["internal/abi.NoEscape", "internal/bytealg.MakeNoZero", "internal/bytealg.IndexByteString", "internal/bytealg.IndexString"], unfollowed := true, recurses := true, named := ["internal/strconv.uint64pow10", "math/bits.deBruijn32tab", "math/bits.deBruijn64tab", "internal/bytealg.MaxLen"], apart := false, laid := [("math/bits.deBruijn32tab", laid_math_bits_deBruijn32tab), ("math/bits.deBruijn64tab", laid_math_bits_deBruijn64tab), ("internal/strconv.uint64pow10", laid_internal_strconv_uint64pow10)] }
def AddrHoldsSaid : Prop := addrHoldsRow.holds Tryd.pinned (OpenSpec.ofChange addrHoldsSpec)

/-- ITS FALSE NEIGHBOUR: 'it returns false'. Refute it at one input. -/
def addrHoldsWrong : ChangeSpec := { name := "addrHolds", fn := fun _ => fun
  | [d1, d2] => { results := [.lit (.bool false)], args := [d1, d2] }
  | _ => none }
def AddrHoldsWrongFalsely : Prop := addrHoldsRow.holds Tryd.pinned (OpenSpec.ofChange addrHoldsWrong)

/-- 'waywardenlaw02.PrefixAround': WHATEVER THE INPUT: true; the input reads as it did. -/
def prefixAroundSpec : ChangeSpec := { name := "prefixAround", fn := fun _ => fun
  | [d1, d2, d3] => { results := [.lit (.bool true)], args := [d1, d2, d3] }
  | _ => none }
def prefixAroundRow : OpenClaim := { program := "ytmmoccceafcfkaadoor", sum := "ca378859242fc657ca09c7b5b4517513bf12940c4f28f79f20b4f6238ea981d9", func := "waywarden/waywardenlaw02.PrefixAround", spec := "prefixAround", unfollowed := true, recurses := true, named := ["waywarden/prefix.rels"], apart := false, laid := [("waywarden/prefix.rels", laid_waywarden_prefix_rels)] }
def PrefixAroundSaid : Prop := prefixAroundRow.holds Tryd.pinned (OpenSpec.ofChange prefixAroundSpec)

/-- ITS FALSE NEIGHBOUR: 'it returns false'. Refute it at one input. -/
def prefixAroundWrong : ChangeSpec := { name := "prefixAround", fn := fun _ => fun
  | [d1, d2, d3] => { results := [.lit (.bool false)], args := [d1, d2, d3] }
  | _ => none }
def PrefixAroundWrongFalsely : Prop := prefixAroundRow.holds Tryd.pinned (OpenSpec.ofChange prefixAroundWrong)

/- THE SECOND FORM. 'bulk': how many values and letters a reading holds, each counted each time it is reached (what is shared counts as often as it is met; a slice's spare places count too). A statement '..UptoSaid' is the law's where the arguments, and the package variables that the reading takes, are together of bulk at most 1048576: NARROWER than '..Said'. Prove '..Said' where nothing that the law and all that it calls make is longer than what came in: it says more and counts as full. Else prove '..UptoSaid'. A law counts once. -/
mutual
def uptoBulk {H : Type} : DataW H → Nat
  | .lit (.string bytes) => bytes.length + 1
  | .lit _ => 1
  | .nil => 1
  | .ptr d => uptoBulk d + 1
  | .slice elems spare => uptoBulkAll elems + uptoBulkAll spare + 1
  | .agg parts => uptoBulkAll parts + 1
  | .iface _ d => uptoBulk d + 1
  | .map entries => uptoBulkEntries entries + 1
  | .held _ => 1
def uptoBulkAll {H : Type} : List (DataW H) → Nat
  | [] => 0
  | d :: r => uptoBulk d + uptoBulkAll r
def uptoBulkEntries {H : Type} : List (Lit × DataW H) → Nat
  | [] => 0
  | x :: r => uptoBulkEntry x + uptoBulkEntries r
def uptoBulkEntry {H : Type} : Lit × DataW H → Nat
  | (.string bytes, d) => bytes.length + uptoBulk d + 1
  | (_, d) => uptoBulk d + 1
 end
def uptoSmall : (H : Type) → List (DataW H) → Bool := fun _ ds => decide (uptoBulkAll ds ≤ 1048576)
def OpenSpec.upto (s : _root_.Go.ChangeSpec) : _root_.Go.OpenSpec := { _root_.Go.OpenSpec.ofChange s with cond := some uptoSmall }

/-- 'waywardenlaw02.PrefixBits', WHERE WHAT IT READS IS OF BULK AT MOST 1048576: true; the input reads as it did. -/
def prefixBitsUptoRow : OpenClaim := { program := "ytmmoccceafcfkaadoor", sum := "ca378859242fc657ca09c7b5b4517513bf12940c4f28f79f20b4f6238ea981d9", func := "waywarden/waywardenlaw02.PrefixBits", spec := "prefixBits", unfollowed := true, recurses := true, named := ["waywarden/prefix.rels"], apart := false, laid := [("waywarden/prefix.rels", laid_waywarden_prefix_rels)], narrowed := true }
def PrefixBitsUptoSaid : Prop := prefixBitsUptoRow.holds Tryd.pinned (OpenSpec.upto prefixBitsSpec)

/-- 'waywardenlaw02.PrefixStands', WHERE WHAT IT READS IS OF BULK AT MOST 1048576: true; the input reads as it did. -/
def prefixStandsUptoRow : OpenClaim := { program := "ytmmoccceafcfkaadoor", sum := "ca378859242fc657ca09c7b5b4517513bf12940c4f28f79f20b4f6238ea981d9", func := "waywarden/waywardenlaw02.PrefixStands", spec := "prefixStands", unfollowed := true, recurses := true, named := ["waywarden/prefix.rels"], apart := false, laid := [("waywarden/prefix.rels", laid_waywarden_prefix_rels)], narrowed := true }
def PrefixStandsUptoSaid : Prop := prefixStandsUptoRow.holds Tryd.pinned (OpenSpec.upto prefixStandsSpec)

/-- 'waywardenlaw02.PrefixHolds', WHERE WHAT IT READS IS OF BULK AT MOST 1048576: true; the input reads as it did. -/
def prefixHoldsUptoRow : OpenClaim := { program := "ytmmoccceafcfkaadoor", sum := "ca378859242fc657ca09c7b5b4517513bf12940c4f28f79f20b4f6238ea981d9", func := "waywarden/waywardenlaw02.PrefixHolds", spec := "prefixHolds", unfollowed := true, recurses := true, named := ["waywarden/prefix.rels"], apart := false, laid := [("waywarden/prefix.rels", laid_waywarden_prefix_rels)], narrowed := true }
def PrefixHoldsUptoSaid : Prop := prefixHoldsUptoRow.holds Tryd.pinned (OpenSpec.upto prefixHoldsSpec)

/-- 'waywardenlaw01.AddrParts', WHERE WHAT IT READS IS OF BULK AT MOST 1048576: true; the input reads as it did. -/
def addrPartsUptoRow : OpenClaim := { program := "ytmmoccceafcfkaadoor", sum := "ca378859242fc657ca09c7b5b4517513bf12940c4f28f79f20b4f6238ea981d9", func := "waywarden/waywardenlaw01.AddrParts", spec := "addrParts", unfollowed := true, recurses := true, named := ["internal/strconv.uint64pow10", "math/bits.deBruijn32tab", "math/bits.deBruijn64tab"], apart := false, laid := [("math/bits.deBruijn32tab", laid_math_bits_deBruijn32tab), ("math/bits.deBruijn64tab", laid_math_bits_deBruijn64tab), ("internal/strconv.uint64pow10", laid_internal_strconv_uint64pow10)], narrowed := true }
def AddrPartsUptoSaid : Prop := addrPartsUptoRow.holds Tryd.pinned (OpenSpec.upto addrPartsSpec)

/-- 'waywardenlaw01.AddrParses', WHERE WHAT IT READS IS OF BULK AT MOST 1048576: true; the input reads as it did. -/
def addrParsesUptoRow : OpenClaim := { program := "ytmmoccceafcfkaadoor", sum := "ca378859242fc657ca09c7b5b4517513bf12940c4f28f79f20b4f6238ea981d9", func := "waywarden/waywardenlaw01.AddrParses", spec := "addrParses", unfollowed := true, recurses := true, named := ["internal/strconv.uint64pow10", "math/bits.deBruijn32tab", "math/bits.deBruijn64tab"], apart := false, laid := [("math/bits.deBruijn32tab", laid_math_bits_deBruijn32tab), ("math/bits.deBruijn64tab", laid_math_bits_deBruijn64tab), ("internal/strconv.uint64pow10", laid_internal_strconv_uint64pow10)], narrowed := true }
def AddrParsesUptoSaid : Prop := addrParsesUptoRow.holds Tryd.pinned (OpenSpec.upto addrParsesSpec)

/-- 'waywardenlaw01.AddrTexts', WHERE WHAT IT READS IS OF BULK AT MOST 1048576: true; the input reads as it did. -/
def addrTextsUptoRow : OpenClaim := { program := "ytmmoccceafcfkaadoor", sum := "ca378859242fc657ca09c7b5b4517513bf12940c4f28f79f20b4f6238ea981d9", func := "waywarden/waywardenlaw01.AddrTexts", spec := "addrTexts", unfollowed := true, recurses := true, named := ["internal/strconv.uint64pow10", "math/bits.deBruijn32tab", "math/bits.deBruijn64tab"], apart := false, laid := [("math/bits.deBruijn32tab", laid_math_bits_deBruijn32tab), ("math/bits.deBruijn64tab", laid_math_bits_deBruijn64tab), ("internal/strconv.uint64pow10", laid_internal_strconv_uint64pow10)], narrowed := true }
def AddrTextsUptoSaid : Prop := addrTextsUptoRow.holds Tryd.pinned (OpenSpec.upto addrTextsSpec)

/-- 'waywardenlaw01.AddrEach', WHERE WHAT IT READS IS OF BULK AT MOST 1048576: true; the input reads as it did. -/
def addrEachUptoRow : OpenClaim := { program := "ytmmoccceafcfkaadoor", sum := "ca378859242fc657ca09c7b5b4517513bf12940c4f28f79f20b4f6238ea981d9", func := "waywarden/waywardenlaw01.AddrEach", spec := "addrEach", inPlace := ["internal/bytealg.IndexByteString", "internal/bytealg.IndexString"], unfollowed := true, recurses := true, named := ["internal/strconv.uint64pow10", "math/bits.deBruijn32tab", "math/bits.deBruijn64tab", "internal/bytealg.MaxLen"], apart := false, laid := [("math/bits.deBruijn32tab", laid_math_bits_deBruijn32tab), ("math/bits.deBruijn64tab", laid_math_bits_deBruijn64tab), ("internal/strconv.uint64pow10", laid_internal_strconv_uint64pow10)], narrowed := true }
def AddrEachUptoSaid : Prop := addrEachUptoRow.holds Tryd.pinned (OpenSpec.upto addrEachSpec)

/-- 'waywardenlaw02.PrefixTexts', WHERE WHAT IT READS IS OF BULK AT MOST 1048576: true; the input reads as it did. -/
def prefixTextsUptoRow : OpenClaim := { program := "ytmmoccceafcfkaadoor", sum := "ca378859242fc657ca09c7b5b4517513bf12940c4f28f79f20b4f6238ea981d9", func := "waywarden/waywardenlaw02.PrefixTexts", spec := "prefixTexts", unfollowed := true, recurses := true, named := ["waywarden/prefix.rels", "internal/strconv.uint64pow10", "math/bits.deBruijn32tab", "math/bits.deBruijn64tab"], apart := false, laid := [("math/bits.deBruijn32tab", laid_math_bits_deBruijn32tab), ("math/bits.deBruijn64tab", laid_math_bits_deBruijn64tab), ("internal/strconv.uint64pow10", laid_internal_strconv_uint64pow10), ("waywarden/prefix.rels", laid_waywarden_prefix_rels)], narrowed := true }
def PrefixTextsUptoSaid : Prop := prefixTextsUptoRow.holds Tryd.pinned (OpenSpec.upto prefixTextsSpec)

/-- 'waywardenlaw01.AddrHolds', WHERE WHAT IT READS IS OF BULK AT MOST 1048576: true; the input reads as it did. -/
def addrHoldsUptoRow : OpenClaim := { program := "ytmmoccceafcfkaadoor", sum := "ca378859242fc657ca09c7b5b4517513bf12940c4f28f79f20b4f6238ea981d9", func := "waywarden/waywardenlaw01.AddrHolds", spec := "addrHolds", inPlace := ["internal/abi.NoEscape", "internal/bytealg.MakeNoZero", "internal/bytealg.IndexByteString", "internal/bytealg.IndexString"], unfollowed := true, recurses := true, named := ["internal/strconv.uint64pow10", "math/bits.deBruijn32tab", "math/bits.deBruijn64tab", "internal/bytealg.MaxLen"], apart := false, laid := [("math/bits.deBruijn32tab", laid_math_bits_deBruijn32tab), ("math/bits.deBruijn64tab", laid_math_bits_deBruijn64tab), ("internal/strconv.uint64pow10", laid_internal_strconv_uint64pow10)], narrowed := true }
def AddrHoldsUptoSaid : Prop := addrHoldsUptoRow.holds Tryd.pinned (OpenSpec.upto addrHoldsSpec)

/-- 'waywardenlaw02.PrefixAround', WHERE WHAT IT READS IS OF BULK AT MOST 1048576: true; the input reads as it did. -/
def prefixAroundUptoRow : OpenClaim := { program := "ytmmoccceafcfkaadoor", sum := "ca378859242fc657ca09c7b5b4517513bf12940c4f28f79f20b4f6238ea981d9", func := "waywarden/waywardenlaw02.PrefixAround", spec := "prefixAround", unfollowed := true, recurses := true, named := ["waywarden/prefix.rels"], apart := false, laid := [("waywarden/prefix.rels", laid_waywarden_prefix_rels)], narrowed := true }
def PrefixAroundUptoSaid : Prop := prefixAroundUptoRow.holds Tryd.pinned (OpenSpec.upto prefixAroundSpec)

end Rows
end Go.Proofs.YtmmoccceafcfkaaDoor
