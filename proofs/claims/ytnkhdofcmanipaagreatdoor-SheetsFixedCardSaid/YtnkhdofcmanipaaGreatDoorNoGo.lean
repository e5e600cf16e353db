/- No function of the program holds a go statement nor is one of the model's three entries: so no call starts a goroutine (Program.goes is false at every function), whatever the closure. -/
import Derived.Test.YtnkhdofcmanipaaGreatDoorCards
import Derived.ProofKit
namespace Go.Proofs.YtnkhdofcmanipaaGreatDoor
open Go.RowKit
theorem go0 : (Tryz.prog.funcs.toList.take 127).all (fun f => !f.goes) = true := by kernel_rfl
theorem go1 : ((Tryz.prog.funcs.toList.drop 127).take 127).all (fun f => !f.goes) = true := by kernel_rfl
theorem go2 : (((Tryz.prog.funcs.toList.drop 127).drop 127).take 127).all (fun f => !f.goes) = true := by kernel_rfl
theorem go3 : ((((Tryz.prog.funcs.toList.drop 127).drop 127).drop 127)).all (fun f => !f.goes) = true := by kernel_rfl
theorem all_of {α : Type} (p : α → Bool) (n : Nat) (l : List α) (h1 : (l.take n).all p = true) (h2 : (l.drop n).all p = true) : l.all p = true := by
  rw [← List.take_append_drop n l, List.all_append, h1, h2]; rfl
theorem noGo : Tryz.prog.funcs.any Func.goes = false := by
  have h := (all_of _ 127 _ go0 (all_of _ 127 _ go1 (all_of _ 127 _ go2 go3)))
  rw [← Array.any_toList, List.any_eq_false]
  intro f hf
  have := List.all_eq_true.1 h f hf
  simpa using this
theorem goesNot (f : FuncId) : Tryz.prog.goes f = false := by
  have hc : ((Tryz.prog.closure f).any fun g => (Tryz.prog.funcs[g]?).any Func.goes) = false := by
    rw [List.any_eq_false]
    intro g _
    cases hg : Tryz.prog.funcs[g]? with
    | none => simp
    | some fn =>
      have h := noGo
      rw [← Array.any_toList, List.any_eq_false] at h
      have := h fn (Array.mem_toList_iff.2 (Array.mem_of_getElem? hg))
      simpa using this
  unfold Program.goes
  rw [hc, noGo]
  simp
end Go.Proofs.YtnkhdofcmanipaaGreatDoor
