/- timing.Write at the time that every statement asks (6012). -/
import Derived.Test.YtjafcnblgeibpaaDoorKey0
import Derived.Lib.ItoaNum
namespace Go.Proofs.YtjafcnblgeibpaaDoor
open Go.RowKit
set_option linter.unusedVariables false

def twoS (n : Int) : ByteArray := strOfNums [48 + n / 10, 48 + n % 10]
theorem twoS12 : twoS 12 = ⟨#[49, 50]⟩ := by decide +kernel
theorem twoS0 : twoS 0 = ⟨#[48, 48]⟩ := by decide +kernel
theorem dec1 : (⟨(Lib.decDigits 1).toArray⟩ : ByteArray) = ⟨#[49]⟩ := by decide +kernel
end Go.Proofs.YtjafcnblgeibpaaDoor
