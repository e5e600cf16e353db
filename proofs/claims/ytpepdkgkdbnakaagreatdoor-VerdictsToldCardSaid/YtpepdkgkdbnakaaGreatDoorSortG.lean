/-
  DERIVED: THE SHELF's CONTRACTS AT THIS DUMP, IN PLAIN WORDS (tools/lay-plain.mjs out of 'TryzShelf.lean', which tools/lay-shelf.mjs wrote): THE SAME DECLARATIONS UNDER THE SAME NAMES: 'import', 'namespace', 'open', 'def', 'theorem' AND NOTHING ELSE: no command of the shelf's: FOR A HAND-IN. Each laying: the table of numbers ('.._ren') and one theorem, a field a fact of the dump's own or the kernel's comparison; each contract: ONE APPLICATION.
-/
import Derived.Shelf.SlGeneric
import Derived.Ground.SlsfProg
import Derived.Ground.SlgnProg
import Derived.Shelf.SlSortCmp.InsertionK
import Derived.Shelf.SlicesE.Clone
import Derived.Shelf.SlicesE.DeleteFunc
import Derived.Ground.SlgfProg
import Derived.Test.YtpepdkgkdbnakaaGreatDoorProg
namespace Go.Proofs
open Go.Shelf
def Tryz.laysSE_ren : Go.Shelf.Ren := ⟨fun | 20 => 268 | n => n, fun | 24 => 105 | 22 => 29 | 3 => 3 | 25 => 177 | 4 => 4 | 0 => 0 | n => n, fun | n => n⟩
theorem Tryz.laysSE : Go.Proofs.SlLaysF0.n20 Tryz.prog Tryz.laysSE_ren := {
  mixed := by kernel_rfl
  f20 := ⟨Tryz.f268.name, by decide, Tryz.func268.trans (congrArg some (by kernel_rfl))⟩
  t0 := Tryz.underlying0
  a0 := Tryz.isAgg0
  z0 := Tryz.sizeOf0
  v0 := Tryz.zeroValue0
  t3 := Tryz.underlying3
  a3 := Tryz.isAgg3
  z3 := Tryz.sizeOf3
  v3 := Tryz.zeroValue3
  t4 := Tryz.underlying4
  a4 := Tryz.isAgg4
  z4 := Tryz.sizeOf4
  v4 := Tryz.zeroValue4
  t22 := Tryz.underlying29
  a22 := Tryz.isAgg29
  z22 := Tryz.sizeOf29
  v22 := Tryz.zeroValue29
  t25 := Tryz.underlying177
  a25 := Tryz.isAgg177
  z25 := Tryz.sizeOf177
  v25 := Tryz.zeroValue177 }
def Tryz.laysSR_ren : Go.Shelf.Ren := ⟨fun | 20 => 377 | n => n, fun | 24 => 202 | 22 => 197 | 3 => 3 | 25 => 322 | 4 => 4 | 0 => 0 | n => n, fun | n => n⟩
theorem Tryz.laysSR : Go.Proofs.SlLaysF0.n20 Tryz.prog Tryz.laysSR_ren := {
  mixed := by kernel_rfl
  f20 := ⟨Tryz.f377.name, by decide, Tryz.func377.trans (congrArg some (by kernel_rfl))⟩
  t0 := Tryz.underlying0
  a0 := Tryz.isAgg0
  z0 := Tryz.sizeOf0
  v0 := Tryz.zeroValue0
  t3 := Tryz.underlying3
  a3 := Tryz.isAgg3
  z3 := Tryz.sizeOf3
  v3 := Tryz.zeroValue3
  t4 := Tryz.underlying4
  a4 := Tryz.isAgg4
  z4 := Tryz.sizeOf4
  v4 := Tryz.zeroValue4
  t22 := Tryz.underlying197
  a22 := Tryz.isAgg197
  z22 := Tryz.sizeOf197
  v22 := Tryz.zeroValue197
  t25 := Tryz.underlying322
  a25 := Tryz.isAgg322
  z25 := Tryz.sizeOf322
  v25 := Tryz.zeroValue322 }
def Tryz.laysSY_ren : Go.Shelf.Ren := ⟨fun | 20 => 299 | n => n, fun | 24 => 133 | 22 => 122 | 3 => 3 | 25 => 242 | 4 => 4 | 0 => 0 | n => n, fun | n => n⟩
theorem Tryz.laysSY : Go.Proofs.SlLaysF0.n20 Tryz.prog Tryz.laysSY_ren := {
  mixed := by kernel_rfl
  f20 := ⟨Tryz.f299.name, by decide, Tryz.func299.trans (congrArg some (by kernel_rfl))⟩
  t0 := Tryz.underlying0
  a0 := Tryz.isAgg0
  z0 := Tryz.sizeOf0
  v0 := Tryz.zeroValue0
  t3 := Tryz.underlying3
  a3 := Tryz.isAgg3
  z3 := Tryz.sizeOf3
  v3 := Tryz.zeroValue3
  t4 := Tryz.underlying4
  a4 := Tryz.isAgg4
  z4 := Tryz.sizeOf4
  v4 := Tryz.zeroValue4
  t22 := Tryz.underlying122
  a22 := Tryz.isAgg122
  z22 := Tryz.sizeOf122
  v22 := Tryz.zeroValue122
  t25 := Tryz.underlying242
  a25 := Tryz.isAgg242
  z25 := Tryz.sizeOf242
  v25 := Tryz.zeroValue242 }
def Tryz.laysSV_ren : Go.Shelf.Ren := ⟨fun | 20 => 386 | n => n, fun | 24 => 293 | 22 => 290 | 3 => 3 | 25 => 348 | 4 => 4 | 0 => 0 | n => n, fun | n => n⟩
theorem Tryz.laysSV : Go.Proofs.SlLaysF0.n20 Tryz.prog Tryz.laysSV_ren := {
  mixed := by kernel_rfl
  f20 := ⟨Tryz.f386.name, by decide, Tryz.func386.trans (congrArg some (by kernel_rfl))⟩
  t0 := Tryz.underlying0
  a0 := Tryz.isAgg0
  z0 := Tryz.sizeOf0
  v0 := Tryz.zeroValue0
  t3 := Tryz.underlying3
  a3 := Tryz.isAgg3
  z3 := Tryz.sizeOf3
  v3 := Tryz.zeroValue3
  t4 := Tryz.underlying4
  a4 := Tryz.isAgg4
  z4 := Tryz.sizeOf4
  v4 := Tryz.zeroValue4
  t22 := Tryz.underlying290
  a22 := Tryz.isAgg290
  z22 := Tryz.sizeOf290
  v22 := Tryz.zeroValue290
  t25 := Tryz.underlying348
  a25 := Tryz.isAgg348
  z25 := Tryz.sizeOf348
  v25 := Tryz.zeroValue348 }
end Go.Proofs
