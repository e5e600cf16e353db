import Derived.Test.YtdbfcneeiiialaaDoorTurns
import Derived.Test.YtdbfcneeiiialaaDoorFadeR
import Derived.BigGuardPart
/- The reference's FarOf; LineAt's errors. -/
namespace Go.Proofs.YtdbfcneeiiialaaDoor
open Go.RowKit
set_option linter.unusedVariables false

end Go.Proofs.YtdbfcneeiiialaaDoor

/- LineAt whole: errors and value in one contract. -/
namespace Go.Proofs.YtdbfcneeiiialaaDoor
open Go.RowKit
set_option linter.unusedVariables false

def lineE (r : Race) (l : List Int) (t : Int) : Int := if wholeErr r l = 0 then (if 0 ≤ t ∧ t ≤ 360000 then 0 else 1) else wholeErr r l
def lineN (r : Race) (l : List Int) (t : Int) : Int := if lineE r l t = 0 then fracN (farP r.course (r.metres * r.legs) l t).1 (farP r.course (r.metres * r.legs) l t).2 else 0
def lineD (r : Race) (l : List Int) (t : Int) : Int := if lineE r l t = 0 then fracD (farP r.course (r.metres * r.legs) l t).1 (farP r.course (r.metres * r.legs) l t).2 else 0
theorem lineE_ok {r : Race} {l : List Int} {t : Int} (h : lineE r l t = 0) : wholeErr r l = 0 ∧ 0 ≤ t ∧ t ≤ 360000 := by
  unfold lineE at h; split at h
  · rename_i h1; split at h
    · rename_i h2; exact ⟨h1, h2.1, h2.2⟩
    · cases h
  · rename_i h1; exact absurd h h1
end Go.Proofs.YtdbfcneeiiialaaDoor
