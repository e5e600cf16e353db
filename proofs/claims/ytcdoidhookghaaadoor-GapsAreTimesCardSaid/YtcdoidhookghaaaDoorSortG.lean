/-
  DERIVED: THE SHELF's CONTRACTS AT THIS DUMP, IN PLAIN WORDS (tools/lay-plain.mjs out of 'TrydShelf.lean', which tools/lay-shelf.mjs wrote): THE SAME DECLARATIONS UNDER THE SAME NAMES: 'import', 'namespace', 'open', 'def', 'theorem' AND NOTHING ELSE: no command of the shelf's: FOR A HAND-IN. Each laying: the table of numbers ('.._ren') and one theorem, a field a fact of the dump's own or the kernel's comparison; each contract: ONE APPLICATION.
-/
import Derived.Shelf.SlGeneric
import Derived.Ground.SlsfProg
import Derived.Shelf.SlSortCmp.InsertionK
import Derived.Test.YtcdoidhookghaaaDoorProg
namespace Go.Proofs
open Go.Shelf
def Tryd.laysSG_ren : Go.Shelf.Ren := ⟨fun | 20 => 175 | n => n, fun | 24 => 41 | 22 => 32 | 3 => 3 | 25 => 145 | 4 => 4 | 0 => 0 | n => n, fun | n => n⟩
theorem Tryd.laysSG : Go.Proofs.SlLaysF0.n20 Tryd.prog Tryd.laysSG_ren := {
  mixed := by kernel_rfl
  f20 := ⟨Tryd.f175.name, by decide, Tryd.func175.trans (congrArg some (by kernel_rfl))⟩
  t0 := Tryd.underlying0
  a0 := Tryd.isAgg0
  z0 := Tryd.sizeOf0
  v0 := Tryd.zeroValue0
  t3 := Tryd.underlying3
  a3 := Tryd.isAgg3
  z3 := Tryd.sizeOf3
  v3 := Tryd.zeroValue3
  t4 := Tryd.underlying4
  a4 := Tryd.isAgg4
  z4 := Tryd.sizeOf4
  v4 := Tryd.zeroValue4
  t22 := Tryd.underlying32
  a22 := Tryd.isAgg32
  z22 := Tryd.sizeOf32
  v22 := Tryd.zeroValue32
  t25 := Tryd.underlying145
  a25 := Tryd.isAgg145
  z25 := Tryd.sizeOf145
  v25 := Tryd.zeroValue145 }
end Go.Proofs
