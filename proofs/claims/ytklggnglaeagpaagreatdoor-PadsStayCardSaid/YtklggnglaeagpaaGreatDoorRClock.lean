/- timing.Write at the time that every statement asks (6012). -/
import Derived.Test.YtklggnglaeagpaaGreatDoorRLens
import Derived.Lib.ItoaNum
namespace Go.Proofs.YtklggnglaeagpaaGreatDoor
open Go.RowKit
set_option linter.unusedVariables false

theorem isTime_c (n : Int) (w : World) : Calls Tryz.prog 237 #[.int .i64 n] w fun e w' => e = .returned (.bool (decide (1 ≤ n ∧ n ≤ 360000))) ∧ w = w' := by
  go_enter Tryz.func237, Tryz.ntmps237
  go_wp2_with (go_at_call 128; refine (within_c _ _ _ _).mono ?_; rintro e w' ⟨rfl, rfl⟩)
  go_ret
  exact ⟨ret_b (by simp), rfl⟩

def twoS (n : Int) : ByteArray := strOfNums [48 + n / 10, 48 + n % 10]
theorem conv_two (a b : Int) (w : World) :
    (Go.convert 241 9 (.slice (some ⟨w.heap.size, 0, none⟩) 2 2)).run Tryz.prog (w.alloc (.cells #[.int .u8 a, .int .u8 b] 5)) = .ok (.string (strOfNums [a, b])) (w.alloc (.cells #[.int .u8 a, .int .u8 b] 5)) := by
  refine run_convert_bytes_arg _ 241 5 Tryz.underlying241 Tryz.underlying5 w.heap.size 0 2 2 [a, b] rfl ?_ 9 Tryz.underlying9
  intro i hi
  rw [blk_cell (heap_alloc_new w _) (0 + i) (v := .int .u8 ([a, b].getD i 0))]
  match i, hi with
  | 0, _ => rfl
  | 1, _ => rfl
theorem two_c (n : Int) (w : World) (h0 : 0 ≤ n) (h1 : n ≤ 99) : Calls Tryz.prog 238 #[.int .i64 n] w fun e w' => e = .returned (.string (twoS n)) ∧ Below w.heap.size w w' := by
  have hcv := conv_two (48 + n / 10) (48 + n % 10) w
  have hr := below_new w (.cells #[.int .u8 (48 + n / 10), .int .u8 (48 + n % 10)] 5)
  go_enter Tryz.func238, Tryz.ntmps238
  go_wp2
  go_ret
  exact ⟨rfl, hr⟩

theorem twoS12 : twoS 12 = ⟨#[49, 50]⟩ := by decide +kernel
theorem twoS0 : twoS 0 = ⟨#[48, 48]⟩ := by decide +kernel
theorem dec1 : (⟨(Lib.decDigits 1).toArray⟩ : ByteArray) = ⟨#[49]⟩ := by decide +kernel
theorem two12_c (w : World) : Calls Tryz.prog 238 #[.int .i64 12] w fun e w' => e = .returned (.string ⟨#[49, 50]⟩) ∧ Below w.heap.size w w' := by
  have := two_c 12 w (by decide) (by decide)
  rwa [twoS12] at this
theorem two0_c (w : World) : Calls Tryz.prog 238 #[.int .i64 0] w fun e w' => e = .returned (.string ⟨#[48, 48]⟩) ∧ Below w.heap.size w w' := by
  have := two_c 0 w (by decide) (by decide)
  rwa [twoS0] at this
theorem itoa1_c (w : World) : Calls Tryz.prog 109 #[.int .i64 1] w fun e w' => e = .returned (.string ⟨#[49]⟩) ∧ w = w' := by
  have := Tryz.strconv_Itoa_small 1 (by decide) w
  rw [dec1] at this
  exact this.mono fun _ _ h => ⟨h.1, h.2.symm⟩
theorem write12_c (w : World) : Calls Tryz.prog 131 #[.int .i64 6012] w fun e w' => e = .returned (.tuple #[.string ⟨#[49, 58, 48, 48, 46, 49, 50]⟩, .int .i64 0]) ∧ Below w.heap.size w w' := by
  go_enter Tryz.func131, Tryz.ntmps131
  go_wp2_with fail
  refine (isTime_c _ _).mono ?_; rintro e w' ⟨rfl, rfl⟩
  go_wp2_with fail
  refine (two12_c _).mono ?_; rintro e w1 ⟨rfl, hb⟩
  go_wp2_with fail
  refine (itoa1_c _).mono ?_; rintro e w' ⟨rfl, rfl⟩
  go_wp2_with fail
  refine (two0_c _).mono ?_; rintro e w2 ⟨rfl, hb2⟩
  have hB := below_next hb hb2
  go_wp2
  go_ret2
  exact ⟨rfl, hB⟩
end Go.Proofs.YtklggnglaeagpaaGreatDoor
