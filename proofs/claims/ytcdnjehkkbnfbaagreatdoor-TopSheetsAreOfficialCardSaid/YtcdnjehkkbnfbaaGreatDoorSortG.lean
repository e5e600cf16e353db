/-
  DERIVED: THE SHELF's CONTRACTS AT THIS DUMP, IN PLAIN WORDS (tools/lay-plain.mjs out of 'TryzShelf.lean', which tools/lay-shelf.mjs wrote): THE SAME DECLARATIONS UNDER THE SAME NAMES: 'import', 'namespace', 'open', 'def', 'theorem' AND NOTHING ELSE: no command of the shelf's: FOR A HAND-IN. Each laying: the table of numbers ('.._ren') and one theorem, a field a fact of the dump's own or the kernel's comparison; each contract: ONE APPLICATION.
-/
import Derived.Shelf.SlGeneric
import Derived.Ground.SlsfProg
import Derived.Ground.SlgnProg
import Derived.Shelf.SlSortCmp.InsertionK
import Derived.Shelf.SlicesE.Clone
import Derived.Shelf.SlicesE.DeleteFunc
import Derived.Ground.SlgfProg
import Derived.Test.YtcdnjehkkbnfbaaGreatDoorProg
namespace Go.Proofs
open Go.Shelf
def Tryz.laysSR_ren : Go.Shelf.Ren := ⟨fun | 20 => 328 | n => n, fun | 24 => 61 | 22 => 57 | 3 => 3 | 25 => 269 | 4 => 4 | 0 => 0 | n => n, fun | n => n⟩
theorem Tryz.laysSR : Go.Proofs.SlLaysF0.n20 Tryz.prog Tryz.laysSR_ren := {
  mixed := by kernel_rfl
  f20 := ⟨Tryz.f328.name, by decide, Tryz.func328.trans (congrArg some (by kernel_rfl))⟩
  t0 := Tryz.underlying0
  a0 := Tryz.isAgg0
  z0 := Tryz.sizeOf0
  v0 := Tryz.zeroValue0
  t3 := Tryz.underlying3
  a3 := Tryz.isAgg3
  z3 := Tryz.sizeOf3
  v3 := Tryz.zeroValue3
  t4 := Tryz.underlying4
  a4 := Tryz.isAgg4
  z4 := Tryz.sizeOf4
  v4 := Tryz.zeroValue4
  t22 := Tryz.underlying57
  a22 := Tryz.isAgg57
  z22 := Tryz.sizeOf57
  v22 := Tryz.zeroValue57
  t25 := Tryz.underlying269
  a25 := Tryz.isAgg269
  z25 := Tryz.sizeOf269
  v25 := Tryz.zeroValue269 }
def Tryz.laysSE_ren : Go.Shelf.Ren := ⟨fun | 20 => 292 | n => n, fun | 24 => 53 | 22 => 41 | 3 => 3 | 25 => 203 | 4 => 4 | 0 => 0 | n => n, fun | n => n⟩
theorem Tryz.laysSE : Go.Proofs.SlLaysF0.n20 Tryz.prog Tryz.laysSE_ren := {
  mixed := by kernel_rfl
  f20 := ⟨Tryz.f292.name, by decide, Tryz.func292.trans (congrArg some (by kernel_rfl))⟩
  t0 := Tryz.underlying0
  a0 := Tryz.isAgg0
  z0 := Tryz.sizeOf0
  v0 := Tryz.zeroValue0
  t3 := Tryz.underlying3
  a3 := Tryz.isAgg3
  z3 := Tryz.sizeOf3
  v3 := Tryz.zeroValue3
  t4 := Tryz.underlying4
  a4 := Tryz.isAgg4
  z4 := Tryz.sizeOf4
  v4 := Tryz.zeroValue4
  t22 := Tryz.underlying41
  a22 := Tryz.isAgg41
  z22 := Tryz.sizeOf41
  v22 := Tryz.zeroValue41
  t25 := Tryz.underlying203
  a25 := Tryz.isAgg203
  z25 := Tryz.sizeOf203
  v25 := Tryz.zeroValue203 }
def Tryz.laysSY_ren : Go.Shelf.Ren := ⟨fun | 20 => 288 | n => n, fun | 24 => 114 | 22 => 29 | 3 => 3 | 25 => 182 | 4 => 4 | 0 => 0 | n => n, fun | n => n⟩
theorem Tryz.laysSY : Go.Proofs.SlLaysF0.n20 Tryz.prog Tryz.laysSY_ren := {
  mixed := by kernel_rfl
  f20 := ⟨Tryz.f288.name, by decide, Tryz.func288.trans (congrArg some (by kernel_rfl))⟩
  t0 := Tryz.underlying0
  a0 := Tryz.isAgg0
  z0 := Tryz.sizeOf0
  v0 := Tryz.zeroValue0
  t3 := Tryz.underlying3
  a3 := Tryz.isAgg3
  z3 := Tryz.sizeOf3
  v3 := Tryz.zeroValue3
  t4 := Tryz.underlying4
  a4 := Tryz.isAgg4
  z4 := Tryz.sizeOf4
  v4 := Tryz.zeroValue4
  t22 := Tryz.underlying29
  a22 := Tryz.isAgg29
  z22 := Tryz.sizeOf29
  v22 := Tryz.zeroValue29
  t25 := Tryz.underlying182
  a25 := Tryz.isAgg182
  z25 := Tryz.sizeOf182
  v25 := Tryz.zeroValue182 }
def Tryz.laysSV_ren : Go.Shelf.Ren := ⟨fun | 20 => 350 | n => n, fun | 24 => 262 | 22 => 259 | 3 => 3 | 25 => 316 | 4 => 4 | 0 => 0 | n => n, fun | n => n⟩
theorem Tryz.laysSV : Go.Proofs.SlLaysF0.n20 Tryz.prog Tryz.laysSV_ren := {
  mixed := by kernel_rfl
  f20 := ⟨Tryz.f350.name, by decide, Tryz.func350.trans (congrArg some (by kernel_rfl))⟩
  t0 := Tryz.underlying0
  a0 := Tryz.isAgg0
  z0 := Tryz.sizeOf0
  v0 := Tryz.zeroValue0
  t3 := Tryz.underlying3
  a3 := Tryz.isAgg3
  z3 := Tryz.sizeOf3
  v3 := Tryz.zeroValue3
  t4 := Tryz.underlying4
  a4 := Tryz.isAgg4
  z4 := Tryz.sizeOf4
  v4 := Tryz.zeroValue4
  t22 := Tryz.underlying259
  a22 := Tryz.isAgg259
  z22 := Tryz.sizeOf259
  v22 := Tryz.zeroValue259
  t25 := Tryz.underlying316
  a25 := Tryz.isAgg316
  z25 := Tryz.sizeOf316
  v25 := Tryz.zeroValue316 }
def Tryz.laysSX_ren : Go.Shelf.Ren := ⟨fun | 20 => 332 | n => n, fun | 24 => 213 | 22 => 210 | 3 => 3 | 25 => 281 | 4 => 4 | 0 => 0 | n => n, fun | n => n⟩
theorem Tryz.laysSX : Go.Proofs.SlLaysF0.n20 Tryz.prog Tryz.laysSX_ren := {
  mixed := by kernel_rfl
  f20 := ⟨Tryz.f332.name, by decide, Tryz.func332.trans (congrArg some (by kernel_rfl))⟩
  t0 := Tryz.underlying0
  a0 := Tryz.isAgg0
  z0 := Tryz.sizeOf0
  v0 := Tryz.zeroValue0
  t3 := Tryz.underlying3
  a3 := Tryz.isAgg3
  z3 := Tryz.sizeOf3
  v3 := Tryz.zeroValue3
  t4 := Tryz.underlying4
  a4 := Tryz.isAgg4
  z4 := Tryz.sizeOf4
  v4 := Tryz.zeroValue4
  t22 := Tryz.underlying210
  a22 := Tryz.isAgg210
  z22 := Tryz.sizeOf210
  v22 := Tryz.zeroValue210
  t25 := Tryz.underlying281
  a25 := Tryz.isAgg281
  z25 := Tryz.sizeOf281
  v25 := Tryz.zeroValue281 }
end Go.Proofs
