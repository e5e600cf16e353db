/- Texts, walked: numbers of words, words of a line, lines. -/
import Derived.Test.YtnkhdofcmanipaaGreatDoorTaTxtP
import Derived.Test.YtnkhdofcmanipaaGreatDoorTaTimeR
import Derived.Test.YtnkhdofcmanipaaGreatDoorTaSortB
namespace Go.Proofs.YtnkhdofcmanipaaGreatDoor
open Go.RowKit Go.Lib
set_option linter.unusedVariables false

/-- words.Lines, tumbref1.Lines, over any taking closure -/
structure TakeL (N F : Nat) (caps : Array Value) (ok : List UInt8 → Bool) (I : List (List UInt8) → World → Prop) : Prop where
  enters : ∀ (args : Array Value) (W : World), (callFunc F args).run Tryz.prog W = .ok (.enter F args) W
  call : ∀ (L : List (List UInt8)) (s : ByteArray) (W : World), I L W → L.length ≤ N → s.size ≤ N → Calls Tryz.prog F (#[.string s] ++ caps) W fun e w' => e = .returned (.bool (ok s.data.toList)) ∧ I (L ++ [s.data.toList]) w'
  drew : ∀ L W q, I L W → I L (W.drewN q)
  mx : ∀ L W, I L W → Mx W
end Go.Proofs.YtnkhdofcmanipaaGreatDoor
