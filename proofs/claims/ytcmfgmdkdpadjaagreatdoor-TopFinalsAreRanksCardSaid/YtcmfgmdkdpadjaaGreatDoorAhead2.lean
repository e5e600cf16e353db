import Derived.Test.YtcmfgmdkdpadjaaGreatDoorRows2
import Derived.Test.YtcmfgmdkdpadjaaGreatDoorSwims2
import Derived.Deep.AppendLies
/- How many hundredths all were before a line: the reference's and the program's. -/
namespace Go.Proofs.YtcmfgmdkdpadjaaGreatDoor
open Go.RowKit
set_option linter.unusedVariables false

theorem info_pair : (Tryz.prog.info? 230).map (fun i => (i.zero, i.size, i.bytes)) = some (some (.agg #[.string ⟨#[]⟩, .string ⟨#[]⟩]), 2, 32) := by kernel_rfl
def aheadL (t : Int) (l : List Sw) : List Pr := l.map fun x => ⟨x.who, itoaS (t - x.sp.getLastD 0)⟩
theorem aheadL_at {t : Int} {l : List Sw} {k : Nat} {x : Sw} (h : l[k]? = some x) : aheadL t (l.drop k) = ⟨x.who, itoaS (t - x.sp.getLastD 0)⟩ :: aheadL t (l.drop (k + 1)) := by rw [drop_at h]; rfl
end Go.Proofs.YtcmfgmdkdpadjaaGreatDoor

/- How many hundredths all were before a line: the program's. -/
namespace Go.Proofs.YtcmfgmdkdpadjaaGreatDoor
open Go.RowKit
set_option linter.unusedVariables false

theorem fieldGo_mem {r : Race} : ∀ {l : List Sw} {p : Option ByteArray}, fieldGo r p l = 0 → ∀ x ∈ l, wholeErr r x.sp = 0
  | [], _, _, x, h => by simp at h
  | y :: l, p, h0, x, h => by
    unfold fieldGo at h0
    split at h0
    · cases h0
    · split at h0
      · cases h0
      · split at h0
        · rename_i h1; exact absurd h0 h1
        · rename_i h1
          rcases List.mem_cons.mp h with rfl | h
          · omega
          · exact fieldGo_mem h0 x h
theorem fieldErr_ok {r : Race} {l : List Sw} (h : fieldErr r l = 0) : raceErr r = 0 ∧ l.length ≤ 20 ∧ ∀ x ∈ l, wholeErr r x.sp = 0 := by
  unfold fieldErr at h
  split at h
  · rename_i h1; exact absurd h h1
  · split at h
    · cases h
    · exact ⟨by omega, by omega, fieldGo_mem h⟩
theorem whole_len {r : Race} {l : List Int} (h : wholeErr r l = 0) : (l.length : Int) = lenV r := (splitsErr_ok (wholeErr_ok h).2.2.2.1).1
def aheadE (r : Race) (l : List Sw) (sp : List Int) : Int := if fieldErr r l ≠ 0 then fieldErr r l else wholeErr r sp
end Go.Proofs.YtcmfgmdkdpadjaaGreatDoor
