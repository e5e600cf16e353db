import Derived.Test.YtklggnglaeagpaaGreatDoorPTxtP
import Derived.Test.YtklggnglaeagpaaGreatDoorPTimeR
import Derived.Test.YtklggnglaeagpaaGreatDoorPBestR
import Derived.Test.YtklggnglaeagpaaGreatDoorPP23
import Derived.Test.YtklggnglaeagpaaGreatDoorPStartC
/- A field as text: the plain law (what is written is read as it was; what is read is written so). -/
namespace Go.Proofs.YtklggnglaeagpaaGreatDoor
open Go.Lib
set_option linter.unusedVariables false

end Go.Proofs.YtklggnglaeagpaaGreatDoor

/- Ranks as text: the plain law. -/
namespace Go.Proofs.YtklggnglaeagpaaGreatDoor
open Go.Lib
set_option linter.unusedVariables false

end Go.Proofs.YtklggnglaeagpaaGreatDoor
/- Starts as text: the plain law. -/
namespace Go.Proofs.YtklggnglaeagpaaGreatDoor
open Go.Lib
set_option linter.unusedVariables false

/-- bounds of what is written -/
def SpBd (x : Sp) : Prop := x.who.size ≤ 100 ∧ (-9223372036854775808 ≤ x.heat ∧ x.heat ≤ 9223372036854775807) ∧ (-9223372036854775808 ≤ x.lane ∧ x.lane ≤ 9223372036854775807)
/-- a line of starts, without its end -/
def stLine (x : Sp) : List UInt8 := itoa x.heat ++ 32 :: (itoa x.lane ++ 32 :: x.who.data.toList)
def stParse (a : List UInt8) : Option Sp := match spl 32 a with
  | [x, y, z] => if x = [] ∨ y = [] ∨ z = [] then none else (match numsP [x, y] 4 with
    | some [m, n] => some ⟨⟨z.toArray⟩, m, n⟩
    | _ => none)
  | _ => none
def stText (l : List Sp) : List UInt8 := l.flatMap fun x => stLine x ++ [10]
end Go.Proofs.YtklggnglaeagpaaGreatDoor
