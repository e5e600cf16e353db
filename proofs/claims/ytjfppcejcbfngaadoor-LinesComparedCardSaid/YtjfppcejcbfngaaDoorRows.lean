/-
  NARROWER THAN 'FOR EVERY INPUT', by the rows' own cells (each row's printed sentence says how): RacesChecked: laid · PacesKept: laid · LengthsBest: laid · TakesWatched: laid · SplitsTold: laid · CoursesCompared: laid · LinesCompared: laid · TouchesOfficial: laid · LapsAddUp: laid · FilledIsRight: laid · LongIsLeast: laid · LikeItselfIsItself: laid.
  DERIVED. THE GIVEN ROWS OF THIS SEAT. 12 by the template 'for every input the law returns true; each argument reads behind the call as it read before'; 0 by the template 'total and deterministic' (their statements: YtjfppcejcbfngaaDoorTotals.lean).
  GIVEN WITH THE SEED: the statements are not yours to turn. If you find one false, say at which input.
  Laid BY PROGRAM, IN A SANDBOX (cutbox-rows.mjs): the forced cells as the released guide's own fill.sh prints them over the translation e0f7339d2d2ab995… (all of the seat's roots in one cut). By AI agents, Wed Nov 11 2026. No macro, syntax, notation, axiom, sorry.
-/
import Derived.Test.YtjfppcejcbfngaaDoorChecked
import GoSem.PinnedTables
import GoSem.Claim
import GoSem.ClaimJoined
import GoSem.ClaimMapViews
import Derived.JoinedTies
import Derived.KernelRfl
namespace Go.Proofs.YtjfppcejcbfngaaDoor
/- THE CELL 'sum', in the pinned program and in every row, IS THE sha256 OF THE DUMP (.gsa) THAT YtjfppcejcbfngaaDoorProg.lean LOADS. Nothing in Lean hashes anything: it is a label: what it is worth is what the hold of that sum in a sandbox is worth. -/
noncomputable def Tryd.pinned : Pinned := { name := "ytjfppcejcbfngaadoor", sum := "e0f7339d2d2ab9951805141707e7675d6a65ad2bb6a9bd6665808f1c09eaac24", checked := Tryd.checked }
namespace Rows
def none {H : Type} : Left H := { results := [], args := [] }

/- WHAT THE LISTED PACKAGE-LEVEL VARIABLES READ AS WHEN THE CALL BEGINS. Each datum BY PROGRAM (the guide's laid-datum.mjs) off the statement by which the dump's own 'gosem.cut.vars' lays the variable. In a bare row this is a premise. The card (YtjfppcejcbfngaaDoorCards.lean) ties it to the program's text. -/
def laid_math_bits_deBruijn32tab {H : Type} : DataW H := .agg [.lit (.int .u8 0), .lit (.int .u8 1), .lit (.int .u8 28), .lit (.int .u8 2), .lit (.int .u8 29), .lit (.int .u8 14), .lit (.int .u8 24), .lit (.int .u8 3), .lit (.int .u8 30), .lit (.int .u8 22), .lit (.int .u8 20), .lit (.int .u8 15), .lit (.int .u8 25), .lit (.int .u8 17), .lit (.int .u8 4), .lit (.int .u8 8), .lit (.int .u8 31), .lit (.int .u8 27), .lit (.int .u8 13), .lit (.int .u8 23), .lit (.int .u8 21), .lit (.int .u8 19), .lit (.int .u8 16), .lit (.int .u8 7), .lit (.int .u8 26), .lit (.int .u8 12), .lit (.int .u8 18), .lit (.int .u8 6), .lit (.int .u8 11), .lit (.int .u8 5), .lit (.int .u8 10), .lit (.int .u8 9)]
def laid_math_bits_deBruijn64tab {H : Type} : DataW H := .agg [.lit (.int .u8 0), .lit (.int .u8 1), .lit (.int .u8 56), .lit (.int .u8 2), .lit (.int .u8 57), .lit (.int .u8 49), .lit (.int .u8 28), .lit (.int .u8 3), .lit (.int .u8 61), .lit (.int .u8 58), .lit (.int .u8 42), .lit (.int .u8 50), .lit (.int .u8 38), .lit (.int .u8 29), .lit (.int .u8 17), .lit (.int .u8 4), .lit (.int .u8 62), .lit (.int .u8 47), .lit (.int .u8 59), .lit (.int .u8 36), .lit (.int .u8 45), .lit (.int .u8 43), .lit (.int .u8 51), .lit (.int .u8 22), .lit (.int .u8 53), .lit (.int .u8 39), .lit (.int .u8 33), .lit (.int .u8 30), .lit (.int .u8 24), .lit (.int .u8 18), .lit (.int .u8 12), .lit (.int .u8 5), .lit (.int .u8 63), .lit (.int .u8 55), .lit (.int .u8 48), .lit (.int .u8 27), .lit (.int .u8 60), .lit (.int .u8 41), .lit (.int .u8 37), .lit (.int .u8 16), .lit (.int .u8 46), .lit (.int .u8 35), .lit (.int .u8 44), .lit (.int .u8 21), .lit (.int .u8 52), .lit (.int .u8 32), .lit (.int .u8 23), .lit (.int .u8 11), .lit (.int .u8 54), .lit (.int .u8 26), .lit (.int .u8 40), .lit (.int .u8 15), .lit (.int .u8 34), .lit (.int .u8 20), .lit (.int .u8 31), .lit (.int .u8 10), .lit (.int .u8 25), .lit (.int .u8 14), .lit (.int .u8 19), .lit (.int .u8 9), .lit (.int .u8 13), .lit (.int .u8 8), .lit (.int .u8 7), .lit (.int .u8 6)]
def laid_internal_strconv_uint64pow10 {H : Type} : DataW H := .agg [.lit (.int .u64 1), .lit (.int .u64 10), .lit (.int .u64 100), .lit (.int .u64 1000), .lit (.int .u64 10000), .lit (.int .u64 100000), .lit (.int .u64 1000000), .lit (.int .u64 10000000), .lit (.int .u64 100000000), .lit (.int .u64 1000000000), .lit (.int .u64 10000000000), .lit (.int .u64 100000000000), .lit (.int .u64 1000000000000), .lit (.int .u64 10000000000000), .lit (.int .u64 100000000000000), .lit (.int .u64 1000000000000000), .lit (.int .u64 10000000000000000), .lit (.int .u64 100000000000000000), .lit (.int .u64 1000000000000000000), .lit (.int .u64 10000000000000000000)]
def laid_unicode_utf8_acceptRanges {H : Type} : DataW H := .agg [.agg [.lit (.int .u8 128), .lit (.int .u8 191)], .agg [.lit (.int .u8 160), .lit (.int .u8 191)], .agg [.lit (.int .u8 128), .lit (.int .u8 159)], .agg [.lit (.int .u8 144), .lit (.int .u8 191)], .agg [.lit (.int .u8 128), .lit (.int .u8 143)], .agg [.lit (.int .u8 0), .lit (.int .u8 0)], .agg [.lit (.int .u8 0), .lit (.int .u8 0)], .agg [.lit (.int .u8 0), .lit (.int .u8 0)], .agg [.lit (.int .u8 0), .lit (.int .u8 0)], .agg [.lit (.int .u8 0), .lit (.int .u8 0)], .agg [.lit (.int .u8 0), .lit (.int .u8 0)], .agg [.lit (.int .u8 0), .lit (.int .u8 0)], .agg [.lit (.int .u8 0), .lit (.int .u8 0)], .agg [.lit (.int .u8 0), .lit (.int .u8 0)], .agg [.lit (.int .u8 0), .lit (.int .u8 0)], .agg [.lit (.int .u8 0), .lit (.int .u8 0)]]
/-- One of Go's own tables, pinned by name: the form's constant. -/
def laid_unicode_utf8_first : DataW Unit := Go.Pinned.utf8First

/-- 'tumblaw1.RacesChecked': WHATEVER THE INPUT: true; the input reads as it did. -/
def racesCheckedSpec : ChangeSpec := { name := "racesChecked", fn := fun _ => fun
  | [d] => { results := [.lit (.bool true)], args := [d] }
  | _ => none }
def racesCheckedRow : OpenClaim := { program := "ytjfppcejcbfngaadoor", sum := "e0f7339d2d2ab9951805141707e7675d6a65ad2bb6a9bd6665808f1c09eaac24", func := "tumbleturn/tumblaw1.RacesChecked", spec := "racesChecked", inPlace := ["internal/bytealg.IndexByteString", "internal/bytealg.IndexString"], named := ["unicode/utf8.first", "unicode/utf8.acceptRanges", "internal/strconv.uint64pow10", "math/bits.deBruijn32tab", "math/bits.deBruijn64tab", "internal/bytealg.MaxLen"], apart := false, laid := [("math/bits.deBruijn32tab", laid_math_bits_deBruijn32tab), ("math/bits.deBruijn64tab", laid_math_bits_deBruijn64tab), ("internal/strconv.uint64pow10", laid_internal_strconv_uint64pow10), ("unicode/utf8.acceptRanges", laid_unicode_utf8_acceptRanges), ("unicode/utf8.first", laid_unicode_utf8_first)] }
def RacesCheckedSaid : Prop := racesCheckedRow.holds Tryd.pinned (OpenSpec.ofChange racesCheckedSpec)

/-- ITS FALSE NEIGHBOUR: 'it returns false'. Refute it at one input. -/
def racesCheckedWrong : ChangeSpec := { name := "racesChecked", fn := fun _ => fun
  | [d] => { results := [.lit (.bool false)], args := [d] }
  | _ => none }
def RacesCheckedWrongFalsely : Prop := racesCheckedRow.holds Tryd.pinned (OpenSpec.ofChange racesCheckedWrong)

/-- 'tumblaw1.PacesKept': WHATEVER THE INPUT: true; the input reads as it did. -/
def pacesKeptSpec : ChangeSpec := { name := "pacesKept", fn := fun _ => fun
  | [d] => { results := [.lit (.bool true)], args := [d] }
  | _ => none }
def pacesKeptRow : OpenClaim := { program := "ytjfppcejcbfngaadoor", sum := "e0f7339d2d2ab9951805141707e7675d6a65ad2bb6a9bd6665808f1c09eaac24", func := "tumbleturn/tumblaw1.PacesKept", spec := "pacesKept", inPlace := ["internal/bytealg.IndexByteString", "internal/bytealg.IndexString"], unfollowed := true, recurses := true, named := ["unicode/utf8.first", "unicode/utf8.acceptRanges", "internal/bytealg.MaxLen"], apart := false, laid := [("unicode/utf8.acceptRanges", laid_unicode_utf8_acceptRanges), ("unicode/utf8.first", laid_unicode_utf8_first)] }
def PacesKeptSaid : Prop := pacesKeptRow.holds Tryd.pinned (OpenSpec.ofChange pacesKeptSpec)

/-- ITS FALSE NEIGHBOUR: 'it returns false'. Refute it at one input. -/
def pacesKeptWrong : ChangeSpec := { name := "pacesKept", fn := fun _ => fun
  | [d] => { results := [.lit (.bool false)], args := [d] }
  | _ => none }
def PacesKeptWrongFalsely : Prop := pacesKeptRow.holds Tryd.pinned (OpenSpec.ofChange pacesKeptWrong)

/-- 'tumblaw1.LengthsBest': WHATEVER THE INPUT: true; the input reads as it did. -/
def lengthsBestSpec : ChangeSpec := { name := "lengthsBest", fn := fun _ => fun
  | [d] => { results := [.lit (.bool true)], args := [d] }
  | _ => none }
def lengthsBestRow : OpenClaim := { program := "ytjfppcejcbfngaadoor", sum := "e0f7339d2d2ab9951805141707e7675d6a65ad2bb6a9bd6665808f1c09eaac24", func := "tumbleturn/tumblaw1.LengthsBest", spec := "lengthsBest", inPlace := ["internal/bytealg.IndexByteString", "internal/bytealg.IndexString"], unfollowed := true, recurses := true, named := ["unicode/utf8.first", "unicode/utf8.acceptRanges", "internal/bytealg.MaxLen"], apart := false, laid := [("unicode/utf8.acceptRanges", laid_unicode_utf8_acceptRanges), ("unicode/utf8.first", laid_unicode_utf8_first)] }
def LengthsBestSaid : Prop := lengthsBestRow.holds Tryd.pinned (OpenSpec.ofChange lengthsBestSpec)

/-- ITS FALSE NEIGHBOUR: 'it returns false'. Refute it at one input. -/
def lengthsBestWrong : ChangeSpec := { name := "lengthsBest", fn := fun _ => fun
  | [d] => { results := [.lit (.bool false)], args := [d] }
  | _ => none }
def LengthsBestWrongFalsely : Prop := lengthsBestRow.holds Tryd.pinned (OpenSpec.ofChange lengthsBestWrong)

/-- 'tumblaw1.TakesWatched': WHATEVER THE INPUT: true; the input reads as it did. -/
def takesWatchedSpec : ChangeSpec := { name := "takesWatched", fn := fun _ => fun
  | [d] => { results := [.lit (.bool true)], args := [d] }
  | _ => none }
def takesWatchedRow : OpenClaim := { program := "ytjfppcejcbfngaadoor", sum := "e0f7339d2d2ab9951805141707e7675d6a65ad2bb6a9bd6665808f1c09eaac24", func := "tumbleturn/tumblaw1.TakesWatched", spec := "takesWatched", inPlace := ["internal/bytealg.IndexByteString", "internal/bytealg.IndexString"], unfollowed := true, recurses := true, named := ["unicode/utf8.first", "unicode/utf8.acceptRanges", "internal/bytealg.MaxLen"], apart := false, laid := [("unicode/utf8.acceptRanges", laid_unicode_utf8_acceptRanges), ("unicode/utf8.first", laid_unicode_utf8_first)] }
def TakesWatchedSaid : Prop := takesWatchedRow.holds Tryd.pinned (OpenSpec.ofChange takesWatchedSpec)

/-- ITS FALSE NEIGHBOUR: 'it returns false'. Refute it at one input. -/
def takesWatchedWrong : ChangeSpec := { name := "takesWatched", fn := fun _ => fun
  | [d] => { results := [.lit (.bool false)], args := [d] }
  | _ => none }
def TakesWatchedWrongFalsely : Prop := takesWatchedRow.holds Tryd.pinned (OpenSpec.ofChange takesWatchedWrong)

/-- 'tumblaw1.SplitsTold': WHATEVER THE INPUT: true; the input reads as it did. -/
def splitsToldSpec : ChangeSpec := { name := "splitsTold", fn := fun _ => fun
  | [d] => { results := [.lit (.bool true)], args := [d] }
  | _ => none }
def splitsToldRow : OpenClaim := { program := "ytjfppcejcbfngaadoor", sum := "e0f7339d2d2ab9951805141707e7675d6a65ad2bb6a9bd6665808f1c09eaac24", func := "tumbleturn/tumblaw1.SplitsTold", spec := "splitsTold", inPlace := ["internal/bytealg.IndexByteString", "internal/bytealg.IndexString"], named := ["unicode/utf8.first", "unicode/utf8.acceptRanges", "internal/strconv.uint64pow10", "math/bits.deBruijn32tab", "math/bits.deBruijn64tab", "internal/bytealg.MaxLen"], apart := false, laid := [("math/bits.deBruijn32tab", laid_math_bits_deBruijn32tab), ("math/bits.deBruijn64tab", laid_math_bits_deBruijn64tab), ("internal/strconv.uint64pow10", laid_internal_strconv_uint64pow10), ("unicode/utf8.acceptRanges", laid_unicode_utf8_acceptRanges), ("unicode/utf8.first", laid_unicode_utf8_first)] }
def SplitsToldSaid : Prop := splitsToldRow.holds Tryd.pinned (OpenSpec.ofChange splitsToldSpec)

/-- ITS FALSE NEIGHBOUR: 'it returns false'. Refute it at one input. -/
def splitsToldWrong : ChangeSpec := { name := "splitsTold", fn := fun _ => fun
  | [d] => { results := [.lit (.bool false)], args := [d] }
  | _ => none }
def SplitsToldWrongFalsely : Prop := splitsToldRow.holds Tryd.pinned (OpenSpec.ofChange splitsToldWrong)

/-- 'tumblaw1.CoursesCompared': WHATEVER THE INPUT: true; the input reads as it did. -/
def coursesComparedSpec : ChangeSpec := { name := "coursesCompared", fn := fun _ => fun
  | [d] => { results := [.lit (.bool true)], args := [d] }
  | _ => none }
def coursesComparedRow : OpenClaim := { program := "ytjfppcejcbfngaadoor", sum := "e0f7339d2d2ab9951805141707e7675d6a65ad2bb6a9bd6665808f1c09eaac24", func := "tumbleturn/tumblaw1.CoursesCompared", spec := "coursesCompared", inPlace := ["internal/bytealg.IndexByteString", "internal/bytealg.IndexString"], unfollowed := true, recurses := true, named := ["unicode/utf8.first", "unicode/utf8.acceptRanges", "internal/strconv.uint64pow10", "math/bits.deBruijn32tab", "math/bits.deBruijn64tab", "internal/bytealg.MaxLen"], apart := false, laid := [("math/bits.deBruijn32tab", laid_math_bits_deBruijn32tab), ("math/bits.deBruijn64tab", laid_math_bits_deBruijn64tab), ("internal/strconv.uint64pow10", laid_internal_strconv_uint64pow10), ("unicode/utf8.acceptRanges", laid_unicode_utf8_acceptRanges), ("unicode/utf8.first", laid_unicode_utf8_first)] }
def CoursesComparedSaid : Prop := coursesComparedRow.holds Tryd.pinned (OpenSpec.ofChange coursesComparedSpec)

/-- ITS FALSE NEIGHBOUR: 'it returns false'. Refute it at one input. -/
def coursesComparedWrong : ChangeSpec := { name := "coursesCompared", fn := fun _ => fun
  | [d] => { results := [.lit (.bool false)], args := [d] }
  | _ => none }
def CoursesComparedWrongFalsely : Prop := coursesComparedRow.holds Tryd.pinned (OpenSpec.ofChange coursesComparedWrong)

/-- 'tumblaw1.LinesCompared': WHATEVER THE INPUT: true; the input reads as it did. -/
def linesComparedSpec : ChangeSpec := { name := "linesCompared", fn := fun _ => fun
  | [d] => { results := [.lit (.bool true)], args := [d] }
  | _ => none }
def linesComparedRow : OpenClaim := { program := "ytjfppcejcbfngaadoor", sum := "e0f7339d2d2ab9951805141707e7675d6a65ad2bb6a9bd6665808f1c09eaac24", func := "tumbleturn/tumblaw1.LinesCompared", spec := "linesCompared", inPlace := ["internal/bytealg.IndexByteString", "internal/bytealg.IndexString"], unfollowed := true, recurses := true, named := ["unicode/utf8.first", "unicode/utf8.acceptRanges", "internal/strconv.uint64pow10", "math/bits.deBruijn32tab", "math/bits.deBruijn64tab", "internal/bytealg.MaxLen"], apart := false, laid := [("math/bits.deBruijn32tab", laid_math_bits_deBruijn32tab), ("math/bits.deBruijn64tab", laid_math_bits_deBruijn64tab), ("internal/strconv.uint64pow10", laid_internal_strconv_uint64pow10), ("unicode/utf8.acceptRanges", laid_unicode_utf8_acceptRanges), ("unicode/utf8.first", laid_unicode_utf8_first)] }
def LinesComparedSaid : Prop := linesComparedRow.holds Tryd.pinned (OpenSpec.ofChange linesComparedSpec)

/-- ITS FALSE NEIGHBOUR: 'it returns false'. Refute it at one input. -/
def linesComparedWrong : ChangeSpec := { name := "linesCompared", fn := fun _ => fun
  | [d] => { results := [.lit (.bool false)], args := [d] }
  | _ => none }
def LinesComparedWrongFalsely : Prop := linesComparedRow.holds Tryd.pinned (OpenSpec.ofChange linesComparedWrong)

/-- 'tumblaw1.TouchesOfficial': WHATEVER THE INPUT: true; the input reads as it did. -/
def touchesOfficialSpec : ChangeSpec := { name := "touchesOfficial", fn := fun _ => fun
  | [d] => { results := [.lit (.bool true)], args := [d] }
  | _ => none }
def touchesOfficialRow : OpenClaim := { program := "ytjfppcejcbfngaadoor", sum := "e0f7339d2d2ab9951805141707e7675d6a65ad2bb6a9bd6665808f1c09eaac24", func := "tumbleturn/tumblaw1.TouchesOfficial", spec := "touchesOfficial", unfollowed := true, recurses := true, named := ["internal/strconv.uint64pow10", "math/bits.deBruijn32tab", "math/bits.deBruijn64tab"], apart := false, laid := [("math/bits.deBruijn32tab", laid_math_bits_deBruijn32tab), ("math/bits.deBruijn64tab", laid_math_bits_deBruijn64tab), ("internal/strconv.uint64pow10", laid_internal_strconv_uint64pow10)] }
def TouchesOfficialSaid : Prop := touchesOfficialRow.holds Tryd.pinned (OpenSpec.ofChange touchesOfficialSpec)

/-- ITS FALSE NEIGHBOUR: 'it returns false'. Refute it at one input. -/
def touchesOfficialWrong : ChangeSpec := { name := "touchesOfficial", fn := fun _ => fun
  | [d] => { results := [.lit (.bool false)], args := [d] }
  | _ => none }
def TouchesOfficialWrongFalsely : Prop := touchesOfficialRow.holds Tryd.pinned (OpenSpec.ofChange touchesOfficialWrong)

/-- 'tumbkeep1.LapsAddUp': WHATEVER THE INPUT: true; the input reads as it did. -/
def lapsAddUpSpec : ChangeSpec := { name := "lapsAddUp", fn := fun _ => fun
  | [d] => { results := [.lit (.bool true)], args := [d] }
  | _ => none }
def lapsAddUpRow : OpenClaim := { program := "ytjfppcejcbfngaadoor", sum := "e0f7339d2d2ab9951805141707e7675d6a65ad2bb6a9bd6665808f1c09eaac24", func := "tumbleturn/tumbkeep1.LapsAddUp", spec := "lapsAddUp", inPlace := ["internal/bytealg.IndexByteString", "internal/bytealg.IndexString", "internal/bytealg.abigen_runtime_cmpstring"], unfollowed := true, recurses := true, named := ["unicode/utf8.first", "unicode/utf8.acceptRanges", "internal/strconv.uint64pow10", "math/bits.deBruijn32tab", "math/bits.deBruijn64tab", "internal/bytealg.MaxLen"], apart := false, laid := [("math/bits.deBruijn32tab", laid_math_bits_deBruijn32tab), ("math/bits.deBruijn64tab", laid_math_bits_deBruijn64tab), ("internal/strconv.uint64pow10", laid_internal_strconv_uint64pow10), ("unicode/utf8.acceptRanges", laid_unicode_utf8_acceptRanges), ("unicode/utf8.first", laid_unicode_utf8_first)] }
def LapsAddUpSaid : Prop := lapsAddUpRow.holds Tryd.pinned (OpenSpec.ofChange lapsAddUpSpec)

/-- ITS FALSE NEIGHBOUR: 'it returns false'. Refute it at one input. -/
def lapsAddUpWrong : ChangeSpec := { name := "lapsAddUp", fn := fun _ => fun
  | [d] => { results := [.lit (.bool false)], args := [d] }
  | _ => none }
def LapsAddUpWrongFalsely : Prop := lapsAddUpRow.holds Tryd.pinned (OpenSpec.ofChange lapsAddUpWrong)

/-- 'tumbkeep1.FilledIsRight': WHATEVER THE INPUT: true; the input reads as it did. -/
def filledIsRightSpec : ChangeSpec := { name := "filledIsRight", fn := fun _ => fun
  | [d] => { results := [.lit (.bool true)], args := [d] }
  | _ => none }
def filledIsRightRow : OpenClaim := { program := "ytjfppcejcbfngaadoor", sum := "e0f7339d2d2ab9951805141707e7675d6a65ad2bb6a9bd6665808f1c09eaac24", func := "tumbleturn/tumbkeep1.FilledIsRight", spec := "filledIsRight", inPlace := ["internal/bytealg.IndexByteString", "internal/bytealg.IndexString", "internal/bytealg.abigen_runtime_cmpstring"], unfollowed := true, recurses := true, named := ["internal/strconv.uint64pow10", "math/bits.deBruijn32tab", "math/bits.deBruijn64tab", "unicode/utf8.first", "unicode/utf8.acceptRanges", "internal/bytealg.MaxLen"], apart := false, laid := [("math/bits.deBruijn32tab", laid_math_bits_deBruijn32tab), ("math/bits.deBruijn64tab", laid_math_bits_deBruijn64tab), ("internal/strconv.uint64pow10", laid_internal_strconv_uint64pow10), ("unicode/utf8.acceptRanges", laid_unicode_utf8_acceptRanges), ("unicode/utf8.first", laid_unicode_utf8_first)] }
def FilledIsRightSaid : Prop := filledIsRightRow.holds Tryd.pinned (OpenSpec.ofChange filledIsRightSpec)

/-- ITS FALSE NEIGHBOUR: 'it returns false'. Refute it at one input. -/
def filledIsRightWrong : ChangeSpec := { name := "filledIsRight", fn := fun _ => fun
  | [d] => { results := [.lit (.bool false)], args := [d] }
  | _ => none }
def FilledIsRightWrongFalsely : Prop := filledIsRightRow.holds Tryd.pinned (OpenSpec.ofChange filledIsRightWrong)

/-- 'tumbkeep1.LongIsLeast': WHATEVER THE INPUT: true; the input reads as it did. -/
def longIsLeastSpec : ChangeSpec := { name := "longIsLeast", fn := fun _ => fun
  | [d] => { results := [.lit (.bool true)], args := [d] }
  | _ => none }
def longIsLeastRow : OpenClaim := { program := "ytjfppcejcbfngaadoor", sum := "e0f7339d2d2ab9951805141707e7675d6a65ad2bb6a9bd6665808f1c09eaac24", func := "tumbleturn/tumbkeep1.LongIsLeast", spec := "longIsLeast", inPlace := ["internal/bytealg.IndexByteString", "internal/bytealg.IndexString", "internal/bytealg.abigen_runtime_cmpstring"], unfollowed := true, recurses := true, named := ["internal/strconv.uint64pow10", "math/bits.deBruijn32tab", "math/bits.deBruijn64tab", "unicode/utf8.first", "unicode/utf8.acceptRanges", "internal/bytealg.MaxLen"], apart := false, laid := [("math/bits.deBruijn32tab", laid_math_bits_deBruijn32tab), ("math/bits.deBruijn64tab", laid_math_bits_deBruijn64tab), ("internal/strconv.uint64pow10", laid_internal_strconv_uint64pow10), ("unicode/utf8.acceptRanges", laid_unicode_utf8_acceptRanges), ("unicode/utf8.first", laid_unicode_utf8_first)] }
def LongIsLeastSaid : Prop := longIsLeastRow.holds Tryd.pinned (OpenSpec.ofChange longIsLeastSpec)

/-- ITS FALSE NEIGHBOUR: 'it returns false'. Refute it at one input. -/
def longIsLeastWrong : ChangeSpec := { name := "longIsLeast", fn := fun _ => fun
  | [d] => { results := [.lit (.bool false)], args := [d] }
  | _ => none }
def LongIsLeastWrongFalsely : Prop := longIsLeastRow.holds Tryd.pinned (OpenSpec.ofChange longIsLeastWrong)

/-- 'tumbkeep1.LikeItselfIsItself': WHATEVER THE INPUT: true; the input reads as it did. -/
def likeItselfIsItselfSpec : ChangeSpec := { name := "likeItselfIsItself", fn := fun _ => fun
  | [d] => { results := [.lit (.bool true)], args := [d] }
  | _ => none }
def likeItselfIsItselfRow : OpenClaim := { program := "ytjfppcejcbfngaadoor", sum := "e0f7339d2d2ab9951805141707e7675d6a65ad2bb6a9bd6665808f1c09eaac24", func := "tumbleturn/tumbkeep1.LikeItselfIsItself", spec := "likeItselfIsItself", inPlace := ["internal/bytealg.IndexByteString", "internal/bytealg.IndexString", "internal/bytealg.abigen_runtime_cmpstring"], unfollowed := true, recurses := true, named := ["unicode/utf8.first", "unicode/utf8.acceptRanges", "internal/strconv.uint64pow10", "math/bits.deBruijn32tab", "math/bits.deBruijn64tab", "internal/bytealg.MaxLen"], apart := false, laid := [("math/bits.deBruijn32tab", laid_math_bits_deBruijn32tab), ("math/bits.deBruijn64tab", laid_math_bits_deBruijn64tab), ("internal/strconv.uint64pow10", laid_internal_strconv_uint64pow10), ("unicode/utf8.acceptRanges", laid_unicode_utf8_acceptRanges), ("unicode/utf8.first", laid_unicode_utf8_first)] }
def LikeItselfIsItselfSaid : Prop := likeItselfIsItselfRow.holds Tryd.pinned (OpenSpec.ofChange likeItselfIsItselfSpec)

/-- ITS FALSE NEIGHBOUR: 'it returns false'. Refute it at one input. -/
def likeItselfIsItselfWrong : ChangeSpec := { name := "likeItselfIsItself", fn := fun _ => fun
  | [d] => { results := [.lit (.bool false)], args := [d] }
  | _ => none }
def LikeItselfIsItselfWrongFalsely : Prop := likeItselfIsItselfRow.holds Tryd.pinned (OpenSpec.ofChange likeItselfIsItselfWrong)

/- THE SECOND FORM. 'bulk': how many values and letters a reading holds, each counted each time it is reached (what is shared counts as often as it is met; a slice's spare places count too). A statement '..UptoSaid' is the law's where the arguments, and the package variables that the reading takes, are together of bulk at most 1048576: NARROWER than '..Said'. Prove '..Said' where nothing that the law and all that it calls make is longer than what came in: it says more and counts as full. Else prove '..UptoSaid'. A law counts once. -/
mutual
def uptoBulk {H : Type} : DataW H → Nat
  | .lit (.string bytes) => bytes.length + 1
  | .lit _ => 1
  | .nil => 1
  | .ptr d => uptoBulk d + 1
  | .slice elems spare => uptoBulkAll elems + uptoBulkAll spare + 1
  | .agg parts => uptoBulkAll parts + 1
  | .iface _ d => uptoBulk d + 1
  | .map entries => uptoBulkEntries entries + 1
  | .held _ => 1
def uptoBulkAll {H : Type} : List (DataW H) → Nat
  | [] => 0
  | d :: r => uptoBulk d + uptoBulkAll r
def uptoBulkEntries {H : Type} : List (Lit × DataW H) → Nat
  | [] => 0
  | x :: r => uptoBulkEntry x + uptoBulkEntries r
def uptoBulkEntry {H : Type} : Lit × DataW H → Nat
  | (.string bytes, d) => bytes.length + uptoBulk d + 1
  | (_, d) => uptoBulk d + 1
 end
def uptoSmall : (H : Type) → List (DataW H) → Bool := fun _ ds => decide (uptoBulkAll ds ≤ 1048576)
def OpenSpec.upto (s : _root_.Go.ChangeSpec) : _root_.Go.OpenSpec := { _root_.Go.OpenSpec.ofChange s with cond := some uptoSmall }

/-- 'tumblaw1.RacesChecked', WHERE WHAT IT READS IS OF BULK AT MOST 1048576: true; the input reads as it did. -/
def racesCheckedUptoRow : OpenClaim := { program := "ytjfppcejcbfngaadoor", sum := "e0f7339d2d2ab9951805141707e7675d6a65ad2bb6a9bd6665808f1c09eaac24", func := "tumbleturn/tumblaw1.RacesChecked", spec := "racesChecked", inPlace := ["internal/bytealg.IndexByteString", "internal/bytealg.IndexString"], named := ["unicode/utf8.first", "unicode/utf8.acceptRanges", "internal/strconv.uint64pow10", "math/bits.deBruijn32tab", "math/bits.deBruijn64tab", "internal/bytealg.MaxLen"], apart := false, laid := [("math/bits.deBruijn32tab", laid_math_bits_deBruijn32tab), ("math/bits.deBruijn64tab", laid_math_bits_deBruijn64tab), ("internal/strconv.uint64pow10", laid_internal_strconv_uint64pow10), ("unicode/utf8.acceptRanges", laid_unicode_utf8_acceptRanges), ("unicode/utf8.first", laid_unicode_utf8_first)], narrowed := true }
def RacesCheckedUptoSaid : Prop := racesCheckedUptoRow.holds Tryd.pinned (OpenSpec.upto racesCheckedSpec)

/-- 'tumblaw1.PacesKept', WHERE WHAT IT READS IS OF BULK AT MOST 1048576: true; the input reads as it did. -/
def pacesKeptUptoRow : OpenClaim := { program := "ytjfppcejcbfngaadoor", sum := "e0f7339d2d2ab9951805141707e7675d6a65ad2bb6a9bd6665808f1c09eaac24", func := "tumbleturn/tumblaw1.PacesKept", spec := "pacesKept", inPlace := ["internal/bytealg.IndexByteString", "internal/bytealg.IndexString"], unfollowed := true, recurses := true, named := ["unicode/utf8.first", "unicode/utf8.acceptRanges", "internal/bytealg.MaxLen"], apart := false, laid := [("unicode/utf8.acceptRanges", laid_unicode_utf8_acceptRanges), ("unicode/utf8.first", laid_unicode_utf8_first)], narrowed := true }
def PacesKeptUptoSaid : Prop := pacesKeptUptoRow.holds Tryd.pinned (OpenSpec.upto pacesKeptSpec)

/-- 'tumblaw1.LengthsBest', WHERE WHAT IT READS IS OF BULK AT MOST 1048576: true; the input reads as it did. -/
def lengthsBestUptoRow : OpenClaim := { program := "ytjfppcejcbfngaadoor", sum := "e0f7339d2d2ab9951805141707e7675d6a65ad2bb6a9bd6665808f1c09eaac24", func := "tumbleturn/tumblaw1.LengthsBest", spec := "lengthsBest", inPlace := ["internal/bytealg.IndexByteString", "internal/bytealg.IndexString"], unfollowed := true, recurses := true, named := ["unicode/utf8.first", "unicode/utf8.acceptRanges", "internal/bytealg.MaxLen"], apart := false, laid := [("unicode/utf8.acceptRanges", laid_unicode_utf8_acceptRanges), ("unicode/utf8.first", laid_unicode_utf8_first)], narrowed := true }
def LengthsBestUptoSaid : Prop := lengthsBestUptoRow.holds Tryd.pinned (OpenSpec.upto lengthsBestSpec)

/-- 'tumblaw1.TakesWatched', WHERE WHAT IT READS IS OF BULK AT MOST 1048576: true; the input reads as it did. -/
def takesWatchedUptoRow : OpenClaim := { program := "ytjfppcejcbfngaadoor", sum := "e0f7339d2d2ab9951805141707e7675d6a65ad2bb6a9bd6665808f1c09eaac24", func := "tumbleturn/tumblaw1.TakesWatched", spec := "takesWatched", inPlace := ["internal/bytealg.IndexByteString", "internal/bytealg.IndexString"], unfollowed := true, recurses := true, named := ["unicode/utf8.first", "unicode/utf8.acceptRanges", "internal/bytealg.MaxLen"], apart := false, laid := [("unicode/utf8.acceptRanges", laid_unicode_utf8_acceptRanges), ("unicode/utf8.first", laid_unicode_utf8_first)], narrowed := true }
def TakesWatchedUptoSaid : Prop := takesWatchedUptoRow.holds Tryd.pinned (OpenSpec.upto takesWatchedSpec)

/-- 'tumblaw1.SplitsTold', WHERE WHAT IT READS IS OF BULK AT MOST 1048576: true; the input reads as it did. -/
def splitsToldUptoRow : OpenClaim := { program := "ytjfppcejcbfngaadoor", sum := "e0f7339d2d2ab9951805141707e7675d6a65ad2bb6a9bd6665808f1c09eaac24", func := "tumbleturn/tumblaw1.SplitsTold", spec := "splitsTold", inPlace := ["internal/bytealg.IndexByteString", "internal/bytealg.IndexString"], named := ["unicode/utf8.first", "unicode/utf8.acceptRanges", "internal/strconv.uint64pow10", "math/bits.deBruijn32tab", "math/bits.deBruijn64tab", "internal/bytealg.MaxLen"], apart := false, laid := [("math/bits.deBruijn32tab", laid_math_bits_deBruijn32tab), ("math/bits.deBruijn64tab", laid_math_bits_deBruijn64tab), ("internal/strconv.uint64pow10", laid_internal_strconv_uint64pow10), ("unicode/utf8.acceptRanges", laid_unicode_utf8_acceptRanges), ("unicode/utf8.first", laid_unicode_utf8_first)], narrowed := true }
def SplitsToldUptoSaid : Prop := splitsToldUptoRow.holds Tryd.pinned (OpenSpec.upto splitsToldSpec)

/-- 'tumblaw1.CoursesCompared', WHERE WHAT IT READS IS OF BULK AT MOST 1048576: true; the input reads as it did. -/
def coursesComparedUptoRow : OpenClaim := { program := "ytjfppcejcbfngaadoor", sum := "e0f7339d2d2ab9951805141707e7675d6a65ad2bb6a9bd6665808f1c09eaac24", func := "tumbleturn/tumblaw1.CoursesCompared", spec := "coursesCompared", inPlace := ["internal/bytealg.IndexByteString", "internal/bytealg.IndexString"], unfollowed := true, recurses := true, named := ["unicode/utf8.first", "unicode/utf8.acceptRanges", "internal/strconv.uint64pow10", "math/bits.deBruijn32tab", "math/bits.deBruijn64tab", "internal/bytealg.MaxLen"], apart := false, laid := [("math/bits.deBruijn32tab", laid_math_bits_deBruijn32tab), ("math/bits.deBruijn64tab", laid_math_bits_deBruijn64tab), ("internal/strconv.uint64pow10", laid_internal_strconv_uint64pow10), ("unicode/utf8.acceptRanges", laid_unicode_utf8_acceptRanges), ("unicode/utf8.first", laid_unicode_utf8_first)], narrowed := true }
def CoursesComparedUptoSaid : Prop := coursesComparedUptoRow.holds Tryd.pinned (OpenSpec.upto coursesComparedSpec)

/-- 'tumblaw1.LinesCompared', WHERE WHAT IT READS IS OF BULK AT MOST 1048576: true; the input reads as it did. -/
def linesComparedUptoRow : OpenClaim := { program := "ytjfppcejcbfngaadoor", sum := "e0f7339d2d2ab9951805141707e7675d6a65ad2bb6a9bd6665808f1c09eaac24", func := "tumbleturn/tumblaw1.LinesCompared", spec := "linesCompared", inPlace := ["internal/bytealg.IndexByteString", "internal/bytealg.IndexString"], unfollowed := true, recurses := true, named := ["unicode/utf8.first", "unicode/utf8.acceptRanges", "internal/strconv.uint64pow10", "math/bits.deBruijn32tab", "math/bits.deBruijn64tab", "internal/bytealg.MaxLen"], apart := false, laid := [("math/bits.deBruijn32tab", laid_math_bits_deBruijn32tab), ("math/bits.deBruijn64tab", laid_math_bits_deBruijn64tab), ("internal/strconv.uint64pow10", laid_internal_strconv_uint64pow10), ("unicode/utf8.acceptRanges", laid_unicode_utf8_acceptRanges), ("unicode/utf8.first", laid_unicode_utf8_first)], narrowed := true }
def LinesComparedUptoSaid : Prop := linesComparedUptoRow.holds Tryd.pinned (OpenSpec.upto linesComparedSpec)

/-- 'tumblaw1.TouchesOfficial', WHERE WHAT IT READS IS OF BULK AT MOST 1048576: true; the input reads as it did. -/
def touchesOfficialUptoRow : OpenClaim := { program := "ytjfppcejcbfngaadoor", sum := "e0f7339d2d2ab9951805141707e7675d6a65ad2bb6a9bd6665808f1c09eaac24", func := "tumbleturn/tumblaw1.TouchesOfficial", spec := "touchesOfficial", unfollowed := true, recurses := true, named := ["internal/strconv.uint64pow10", "math/bits.deBruijn32tab", "math/bits.deBruijn64tab"], apart := false, laid := [("math/bits.deBruijn32tab", laid_math_bits_deBruijn32tab), ("math/bits.deBruijn64tab", laid_math_bits_deBruijn64tab), ("internal/strconv.uint64pow10", laid_internal_strconv_uint64pow10)], narrowed := true }
def TouchesOfficialUptoSaid : Prop := touchesOfficialUptoRow.holds Tryd.pinned (OpenSpec.upto touchesOfficialSpec)

/-- 'tumbkeep1.LapsAddUp', WHERE WHAT IT READS IS OF BULK AT MOST 1048576: true; the input reads as it did. -/
def lapsAddUpUptoRow : OpenClaim := { program := "ytjfppcejcbfngaadoor", sum := "e0f7339d2d2ab9951805141707e7675d6a65ad2bb6a9bd6665808f1c09eaac24", func := "tumbleturn/tumbkeep1.LapsAddUp", spec := "lapsAddUp", inPlace := ["internal/bytealg.IndexByteString", "internal/bytealg.IndexString", "internal/bytealg.abigen_runtime_cmpstring"], unfollowed := true, recurses := true, named := ["unicode/utf8.first", "unicode/utf8.acceptRanges", "internal/strconv.uint64pow10", "math/bits.deBruijn32tab", "math/bits.deBruijn64tab", "internal/bytealg.MaxLen"], apart := false, laid := [("math/bits.deBruijn32tab", laid_math_bits_deBruijn32tab), ("math/bits.deBruijn64tab", laid_math_bits_deBruijn64tab), ("internal/strconv.uint64pow10", laid_internal_strconv_uint64pow10), ("unicode/utf8.acceptRanges", laid_unicode_utf8_acceptRanges), ("unicode/utf8.first", laid_unicode_utf8_first)], narrowed := true }
def LapsAddUpUptoSaid : Prop := lapsAddUpUptoRow.holds Tryd.pinned (OpenSpec.upto lapsAddUpSpec)

/-- 'tumbkeep1.FilledIsRight', WHERE WHAT IT READS IS OF BULK AT MOST 1048576: true; the input reads as it did. -/
def filledIsRightUptoRow : OpenClaim := { program := "ytjfppcejcbfngaadoor", sum := "e0f7339d2d2ab9951805141707e7675d6a65ad2bb6a9bd6665808f1c09eaac24", func := "tumbleturn/tumbkeep1.FilledIsRight", spec := "filledIsRight", inPlace := ["internal/bytealg.IndexByteString", "internal/bytealg.IndexString", "internal/bytealg.abigen_runtime_cmpstring"], unfollowed := true, recurses := true, named := ["internal/strconv.uint64pow10", "math/bits.deBruijn32tab", "math/bits.deBruijn64tab", "unicode/utf8.first", "unicode/utf8.acceptRanges", "internal/bytealg.MaxLen"], apart := false, laid := [("math/bits.deBruijn32tab", laid_math_bits_deBruijn32tab), ("math/bits.deBruijn64tab", laid_math_bits_deBruijn64tab), ("internal/strconv.uint64pow10", laid_internal_strconv_uint64pow10), ("unicode/utf8.acceptRanges", laid_unicode_utf8_acceptRanges), ("unicode/utf8.first", laid_unicode_utf8_first)], narrowed := true }
def FilledIsRightUptoSaid : Prop := filledIsRightUptoRow.holds Tryd.pinned (OpenSpec.upto filledIsRightSpec)

/-- 'tumbkeep1.LongIsLeast', WHERE WHAT IT READS IS OF BULK AT MOST 1048576: true; the input reads as it did. -/
def longIsLeastUptoRow : OpenClaim := { program := "ytjfppcejcbfngaadoor", sum := "e0f7339d2d2ab9951805141707e7675d6a65ad2bb6a9bd6665808f1c09eaac24", func := "tumbleturn/tumbkeep1.LongIsLeast", spec := "longIsLeast", inPlace := ["internal/bytealg.IndexByteString", "internal/bytealg.IndexString", "internal/bytealg.abigen_runtime_cmpstring"], unfollowed := true, recurses := true, named := ["internal/strconv.uint64pow10", "math/bits.deBruijn32tab", "math/bits.deBruijn64tab", "unicode/utf8.first", "unicode/utf8.acceptRanges", "internal/bytealg.MaxLen"], apart := false, laid := [("math/bits.deBruijn32tab", laid_math_bits_deBruijn32tab), ("math/bits.deBruijn64tab", laid_math_bits_deBruijn64tab), ("internal/strconv.uint64pow10", laid_internal_strconv_uint64pow10), ("unicode/utf8.acceptRanges", laid_unicode_utf8_acceptRanges), ("unicode/utf8.first", laid_unicode_utf8_first)], narrowed := true }
def LongIsLeastUptoSaid : Prop := longIsLeastUptoRow.holds Tryd.pinned (OpenSpec.upto longIsLeastSpec)

/-- 'tumbkeep1.LikeItselfIsItself', WHERE WHAT IT READS IS OF BULK AT MOST 1048576: true; the input reads as it did. -/
def likeItselfIsItselfUptoRow : OpenClaim := { program := "ytjfppcejcbfngaadoor", sum := "e0f7339d2d2ab9951805141707e7675d6a65ad2bb6a9bd6665808f1c09eaac24", func := "tumbleturn/tumbkeep1.LikeItselfIsItself", spec := "likeItselfIsItself", inPlace := ["internal/bytealg.IndexByteString", "internal/bytealg.IndexString", "internal/bytealg.abigen_runtime_cmpstring"], unfollowed := true, recurses := true, named := ["unicode/utf8.first", "unicode/utf8.acceptRanges", "internal/strconv.uint64pow10", "math/bits.deBruijn32tab", "math/bits.deBruijn64tab", "internal/bytealg.MaxLen"], apart := false, laid := [("math/bits.deBruijn32tab", laid_math_bits_deBruijn32tab), ("math/bits.deBruijn64tab", laid_math_bits_deBruijn64tab), ("internal/strconv.uint64pow10", laid_internal_strconv_uint64pow10), ("unicode/utf8.acceptRanges", laid_unicode_utf8_acceptRanges), ("unicode/utf8.first", laid_unicode_utf8_first)], narrowed := true }
def LikeItselfIsItselfUptoSaid : Prop := likeItselfIsItselfUptoRow.holds Tryd.pinned (OpenSpec.upto likeItselfIsItselfSpec)

end Rows
end Go.Proofs.YtjfppcejcbfngaaDoor
