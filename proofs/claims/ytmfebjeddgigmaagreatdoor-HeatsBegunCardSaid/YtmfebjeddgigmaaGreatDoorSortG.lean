/-
  DERIVED: THE SHELF's CONTRACTS AT THIS DUMP, IN PLAIN WORDS (tools/lay-plain.mjs out of 'TryzShelf.lean', which tools/lay-shelf.mjs wrote): THE SAME DECLARATIONS UNDER THE SAME NAMES: 'import', 'namespace', 'open', 'def', 'theorem' AND NOTHING ELSE: no command of the shelf's: FOR A HAND-IN. Each laying: the table of numbers ('.._ren') and one theorem, a field a fact of the dump's own or the kernel's comparison; each contract: ONE APPLICATION.
-/
import Derived.Shelf.SlGeneric
import Derived.Ground.SlsfProg
import Derived.Ground.SlgnProg
import Derived.Shelf.SlSortCmp.InsertionK
import Derived.Shelf.SlicesE.Clone
import Derived.Shelf.SlicesE.DeleteFunc
import Derived.Ground.SlgfProg
import Derived.Test.YtmfebjeddgigmaaGreatDoorProg
namespace Go.Proofs
open Go.Shelf
def Tryz.laysSR_ren : Go.Shelf.Ren := ⟨fun | 20 => 347 | n => n, fun | 24 => 76 | 22 => 72 | 3 => 3 | 25 => 285 | 4 => 4 | 0 => 0 | n => n, fun | n => n⟩
theorem Tryz.laysSR : Go.Proofs.SlLaysF0.n20 Tryz.prog Tryz.laysSR_ren := {
  mixed := by kernel_rfl
  f20 := ⟨Tryz.f347.name, by decide, Tryz.func347.trans (congrArg some (by kernel_rfl))⟩
  t0 := Tryz.underlying0
  a0 := Tryz.isAgg0
  z0 := Tryz.sizeOf0
  v0 := Tryz.zeroValue0
  t3 := Tryz.underlying3
  a3 := Tryz.isAgg3
  z3 := Tryz.sizeOf3
  v3 := Tryz.zeroValue3
  t4 := Tryz.underlying4
  a4 := Tryz.isAgg4
  z4 := Tryz.sizeOf4
  v4 := Tryz.zeroValue4
  t22 := Tryz.underlying72
  a22 := Tryz.isAgg72
  z22 := Tryz.sizeOf72
  v22 := Tryz.zeroValue72
  t25 := Tryz.underlying285
  a25 := Tryz.isAgg285
  z25 := Tryz.sizeOf285
  v25 := Tryz.zeroValue285 }
def Tryz.laysSE_ren : Go.Shelf.Ren := ⟨fun | 20 => 306 | n => n, fun | 24 => 68 | 22 => 56 | 3 => 3 | 25 => 206 | 4 => 4 | 0 => 0 | n => n, fun | n => n⟩
theorem Tryz.laysSE : Go.Proofs.SlLaysF0.n20 Tryz.prog Tryz.laysSE_ren := {
  mixed := by kernel_rfl
  f20 := ⟨Tryz.f306.name, by decide, Tryz.func306.trans (congrArg some (by kernel_rfl))⟩
  t0 := Tryz.underlying0
  a0 := Tryz.isAgg0
  z0 := Tryz.sizeOf0
  v0 := Tryz.zeroValue0
  t3 := Tryz.underlying3
  a3 := Tryz.isAgg3
  z3 := Tryz.sizeOf3
  v3 := Tryz.zeroValue3
  t4 := Tryz.underlying4
  a4 := Tryz.isAgg4
  z4 := Tryz.sizeOf4
  v4 := Tryz.zeroValue4
  t22 := Tryz.underlying56
  a22 := Tryz.isAgg56
  z22 := Tryz.sizeOf56
  v22 := Tryz.zeroValue56
  t25 := Tryz.underlying206
  a25 := Tryz.isAgg206
  z25 := Tryz.sizeOf206
  v25 := Tryz.zeroValue206 }
def Tryz.laysSY_ren : Go.Shelf.Ren := ⟨fun | 20 => 267 | n => n, fun | 24 => 155 | 22 => 26 | 3 => 3 | 25 => 161 | 4 => 4 | 0 => 0 | n => n, fun | n => n⟩
theorem Tryz.laysSY : Go.Proofs.SlLaysF0.n20 Tryz.prog Tryz.laysSY_ren := {
  mixed := by kernel_rfl
  f20 := ⟨Tryz.f267.name, by decide, Tryz.func267.trans (congrArg some (by kernel_rfl))⟩
  t0 := Tryz.underlying0
  a0 := Tryz.isAgg0
  z0 := Tryz.sizeOf0
  v0 := Tryz.zeroValue0
  t3 := Tryz.underlying3
  a3 := Tryz.isAgg3
  z3 := Tryz.sizeOf3
  v3 := Tryz.zeroValue3
  t4 := Tryz.underlying4
  a4 := Tryz.isAgg4
  z4 := Tryz.sizeOf4
  v4 := Tryz.zeroValue4
  t22 := Tryz.underlying26
  a22 := Tryz.isAgg26
  z22 := Tryz.sizeOf26
  v22 := Tryz.zeroValue26
  t25 := Tryz.underlying161
  a25 := Tryz.isAgg161
  z25 := Tryz.sizeOf161
  v25 := Tryz.zeroValue161 }
def Tryz.laysSV_ren : Go.Shelf.Ren := ⟨fun | 20 => 376 | n => n, fun | 24 => 270 | 22 => 267 | 3 => 3 | 25 => 335 | 4 => 4 | 0 => 0 | n => n, fun | n => n⟩
theorem Tryz.laysSV : Go.Proofs.SlLaysF0.n20 Tryz.prog Tryz.laysSV_ren := {
  mixed := by kernel_rfl
  f20 := ⟨Tryz.f376.name, by decide, Tryz.func376.trans (congrArg some (by kernel_rfl))⟩
  t0 := Tryz.underlying0
  a0 := Tryz.isAgg0
  z0 := Tryz.sizeOf0
  v0 := Tryz.zeroValue0
  t3 := Tryz.underlying3
  a3 := Tryz.isAgg3
  z3 := Tryz.sizeOf3
  v3 := Tryz.zeroValue3
  t4 := Tryz.underlying4
  a4 := Tryz.isAgg4
  z4 := Tryz.sizeOf4
  v4 := Tryz.zeroValue4
  t22 := Tryz.underlying267
  a22 := Tryz.isAgg267
  z22 := Tryz.sizeOf267
  v22 := Tryz.zeroValue267
  t25 := Tryz.underlying335
  a25 := Tryz.isAgg335
  z25 := Tryz.sizeOf335
  v25 := Tryz.zeroValue335 }
def Tryz.laysSX_ren : Go.Shelf.Ren := ⟨fun | 20 => 360 | n => n, fun | 24 => 238 | 22 => 235 | 3 => 3 | 25 => 304 | 4 => 4 | 0 => 0 | n => n, fun | n => n⟩
theorem Tryz.laysSX : Go.Proofs.SlLaysF0.n20 Tryz.prog Tryz.laysSX_ren := {
  mixed := by kernel_rfl
  f20 := ⟨Tryz.f360.name, by decide, Tryz.func360.trans (congrArg some (by kernel_rfl))⟩
  t0 := Tryz.underlying0
  a0 := Tryz.isAgg0
  z0 := Tryz.sizeOf0
  v0 := Tryz.zeroValue0
  t3 := Tryz.underlying3
  a3 := Tryz.isAgg3
  z3 := Tryz.sizeOf3
  v3 := Tryz.zeroValue3
  t4 := Tryz.underlying4
  a4 := Tryz.isAgg4
  z4 := Tryz.sizeOf4
  v4 := Tryz.zeroValue4
  t22 := Tryz.underlying235
  a22 := Tryz.isAgg235
  z22 := Tryz.sizeOf235
  v22 := Tryz.zeroValue235
  t25 := Tryz.underlying304
  a25 := Tryz.isAgg304
  z25 := Tryz.sizeOf304
  v25 := Tryz.zeroValue304 }
end Go.Proofs
