import Derived.Test.YtnkhdofcmanipaaGreatDoorProg
import Derived.Test.YtnkhdofcmanipaaGreatDoorFaStructs
import Derived.Test.YtnkhdofcmanipaaGreatDoorShelf
import Derived.Shelf.Strings.SlTrimAscii
import Derived.BigGuardPart
/- Numbers within bounds; keys: what words.IsKey and the reference's Key answer. -/
namespace Go.Proofs.YtnkhdofcmanipaaGreatDoor
open Go.RowKit
set_option linter.unusedVariables false

theorem within_c (a b c : Int) (w : World) : Calls Tryz.prog 60 #[.int .i64 a, .int .i64 b, .int .i64 c] w fun e w' => e = .returned (.bool (decide (b ≤ a ∧ a ≤ c))) ∧ w = w' := by
  go_enter Tryz.func60, Tryz.ntmps60
  go_wp2
  all_goals (go_ret; refine ⟨ret_b ?_, rfl⟩)
  · by_cases h : a ≤ c <;> simp [*]
  · simp; omega
theorem in_c (a b c : Int) (w : World) : Calls Tryz.prog 50 #[.int .i64 a, .int .i64 b, .int .i64 c] w fun e w' => e = .returned (.bool (decide (b ≤ a ∧ a ≤ c))) ∧ w = w' := by
  go_enter Tryz.func50, Tryz.ntmps50
  go_wp2
  all_goals (go_ret; refine ⟨ret_b ?_, rfl⟩)
  · by_cases h : a ≤ c <;> simp [*]
  · simp; omega


def keySet : List UInt8 := [97, 98, 99, 100, 101, 102, 103, 104, 105, 106, 107, 108, 109, 110, 111, 112, 113, 114, 115, 116, 117, 118, 119, 120, 121, 122, 48, 49, 50, 51, 52, 53, 54, 55, 56, 57, 45, 95]
def keyTrim (s : ByteArray) : ByteArray := ⟨(Lib.trimS s.data.toList keySet).toArray⟩
def smallB (b : UInt8) : Bool := decide (97 ≤ (b.toNat : Int) ∧ (b.toNat : Int) ≤ 122)
def keyB (s : ByteArray) : Bool := decide (1 ≤ s.size ∧ s.size ≤ 40) && smallB (s.data.toList.headD 0) && (keyTrim s).toList.isEmpty

theorem trim_c (s : ByteArray) (w : World) (hs : s.size ≤ 40) : Calls Tryz.prog 98 #[.string s, .string ⟨#[97, 98, 99, 100, 101, 102, 103, 104, 105, 106, 107, 108, 109, 110, 111, 112, 113, 114, 115, 116, 117, 118, 119, 120, 121, 122, 48, 49, 50, 51, 52, 53, 54, 55, 56, 57, 45, 95]⟩] w
    fun e w' => e = .returned (.string (keyTrim s)) ∧ Below w.heap.size w w' :=
  Any.strings_Trim_laid Tryz.lays160 (by kernel_rfl) s ⟨#[97, 98, 99, 100, 101, 102, 103, 104, 105, 106, 107, 108, 109, 110, 111, 112, 113, 114, 115, 116, 117, 118, 119, 120, 121, 122, 48, 49, 50, 51, 52, 53, 54, 55, 56, 57, 45, 95]⟩ w (by omega) (by decide) (ascii_of_all (by decide))

theorem head_of (s : ByteArray) (h : 0 < s.size) : s.data.toList.headD 0 = s[0] := by
  obtain ⟨⟨l⟩⟩ := s
  cases l with
  | nil => simp [ByteArray.size] at h
  | cons a t => rfl

theorem indexSmall (b : UInt8) : decide (0 ≤ Lib.indexByte [97, 98, 99, 100, 101, 102, 103, 104, 105, 106, 107, 108, 109, 110, 111, 112, 113, 114, 115, 116, 117, 118, 119, 120, 121, 122] b) = smallB b := by
  have h : ∀ n : Fin 256, decide (0 ≤ Lib.indexByte [97, 98, 99, 100, 101, 102, 103, 104, 105, 106, 107, 108, 109, 110, 111, 112, 113, 114, 115, 116, 117, 118, 119, 120, 121, 122] (UInt8.ofNat n.val)) = smallB (UInt8.ofNat n.val) := by decide +kernel
  have := h ⟨b.toNat, b.toNat_lt⟩
  simpa using this
theorem isKey_c (s : ByteArray) (w : World) : Calls Tryz.prog 59 #[.string s] w fun e w' => e = .returned (.bool (keyB s)) ∧ Below w.heap.size w w' := by
  by_cases h : 1 ≤ s.size ∧ s.size ≤ 40
  · obtain ⟨h1, h2⟩ := h
    have hh := Lib.hid (head_of s (by omega))
    have hr := Below.refl w.heap.size w
    go_enter Tryz.func59, Tryz.ntmps59
    go_wp2_with (go_at_call 98; refine (trim_c s _ h2).mono ?_; rintro e w1 ⟨rfl, hb⟩)
    all_goals (go_ret; refine ⟨ret_b ?_, by with_reducible assumption⟩; simp only [keyB, smallB, hh.out])
    all_goals (first | (exfalso; omega) | (simp [*]; done) | (simp [*]; intros; omega))
  · have hr := Below.refl w.heap.size w
    have h' := Lib.hid h; clear h
    go_enter Tryz.func59, Tryz.ntmps59
    go_wp2
    all_goals (first | (exfalso; have := h'.out; omega) | (go_ret; exact ⟨ret_b (by simp only [keyB, decide_eq_false h'.out, Bool.false_and]), by with_reducible assumption⟩))
theorem key_c (s : ByteArray) (w : World) : Calls Tryz.prog 49 #[.string s] w fun e w' => e = .returned (.bool (keyB s)) ∧ Below w.heap.size w w' := by
  by_cases h : 1 ≤ s.size ∧ s.size ≤ 40
  · obtain ⟨h1, h2⟩ := h
    have hh := Lib.hid (head_of s (by omega))
    have hr := Below.refl w.heap.size w
    go_enter Tryz.func49, Tryz.ntmps49
    go_wp2_with (first
      | (go_at_call 50; refine (in_c _ _ _ _).mono ?_; rintro e w' ⟨rfl, rfl⟩)
      | (go_at_call 98; refine (trim_c s _ h2).mono ?_; rintro e w1 ⟨rfl, hb⟩)
      | (go_at_call 99; refine (Tryz.strings_IndexByte _ _ _).mono ?_; rintro e w' ⟨rfl, rfl⟩))
    all_goals (go_ret; refine ⟨ret_b ?_, by with_reducible assumption⟩; simp only [keyB, hh.out])
    · have e := indexSmall s[0]
      simp [*]
    · simp [*]
    · exfalso; omega
  · have hr := Below.refl w.heap.size w
    have h' := Lib.hid h; clear h
    go_enter Tryz.func49, Tryz.ntmps49
    go_wp2_with (first
      | (go_at_call 50; refine (in_c _ _ _ _).mono ?_; rintro e w' ⟨rfl, rfl⟩)
      | (go_at_call 98; refine (trim_c s _ (by omega)).mono ?_; rintro e w1 ⟨rfl, hb⟩)
      | (go_at_call 99; refine (Tryz.strings_IndexByte _ _ _).mono ?_; rintro e w' ⟨rfl, rfl⟩))
    all_goals (first | (exfalso; have := h'.out; omega) | (go_ret; exact ⟨ret_b (by simp only [keyB, decide_eq_false h'.out, Bool.false_and]), by with_reducible assumption⟩))
end Go.Proofs.YtnkhdofcmanipaaGreatDoor

/- Numbers within bounds; keys. -/
namespace Go.Proofs.YtnkhdofcmanipaaGreatDoor
open Go.RowKit
set_option linter.unusedVariables false

def raceErr (r : Race) : Int :=
  if keyB r.key = false then 5
  else if ¬ (1 ≤ r.stroke ∧ r.stroke ≤ 5 ∧ 0 ≤ r.sex ∧ r.sex ≤ 2) then 4
  else if (r.course ≠ 25 ∧ r.course ≠ 50) ∨ ¬ (1 ≤ r.legs ∧ r.legs ≤ 4) ∨ ¬ (25 ≤ r.metres ∧ r.metres ≤ 1500) ∨ r.young < 0 ∨ r.old < r.young ∨ 120 < r.old then 1
  else if r.metres % r.course ≠ 0 then 3
  else if r.stroke = 5 ∧ ((r.legs = 1 ∧ r.metres % (4 * r.course) ≠ 0) ∨ (1 < r.legs ∧ r.legs ≠ 4)) then 16
  else 0

set_option maxHeartbeats 1600000 in
theorem checkRace_c (r : Race) (w : World) : Calls Tryz.prog 67 #[r.val] w fun e w' => e = .returned (.int .i64 (raceErr r)) ∧ Below w.heap.size w w' := by
  obtain ⟨key, metres, stroke, course, legs, sex, young, old⟩ := r
  dsimp only [Race.val, Race.cells]
  by_cases hc : course = 25 ∨ course = 50
  · by_cases hm : 25 ≤ metres ∧ metres ≤ 1500
    all_goals (rcases hc with rfl | rfl)
    all_goals
      go_enter Tryz.func67, Tryz.ntmps67
      go_wp2_with (first
        | (go_at_call 59; refine (isKey_c _ _).mono ?_; rintro e w1 ⟨rfl, hb1⟩; obtain ⟨C1, F1⟩ := bcell hb1; have hB1 := below_box hb1)
        | (go_at_call 60; refine (within_c _ _ _ _).mono ?_; rintro e w' ⟨rfl, rfl⟩))
      all_goals (go_ret; refine ⟨ret_i ?_, by with_reducible assumption⟩)
      all_goals (simp only [raceErr]; (repeat' split) <;> first | rfl | (exfalso; simp_all; done) | (exfalso; simp_all; omega))
  · have h25 : (course == 25) = false := by simp; omega
    have h50 : (course == 50) = false := by simp; omega
    have n25 : (course != 25) = true := by simp; omega
    have n50 : (course != 50) = true := by simp; omega
    have hc' := Lib.hid hc
    clear hc
    all_goals
      go_enter Tryz.func67, Tryz.ntmps67
      go_wp2_with (first
        | (go_at_call 59; refine (isKey_c _ _).mono ?_; rintro e w1 ⟨rfl, hb1⟩; obtain ⟨C1, F1⟩ := bcell hb1; have hB1 := below_box hb1)
        | (go_at_call 60; refine (within_c _ _ _ _).mono ?_; rintro e w' ⟨rfl, rfl⟩))
      all_goals (go_ret; refine ⟨ret_i ?_, by with_reducible assumption⟩)
      all_goals (have hc := hc'.out; simp only [raceErr]; (repeat' split) <;> first | rfl | (exfalso; simp_all; done) | (exfalso; simp_all; omega))
set_option maxHeartbeats 1600000 in
theorem raceFault_c (r : Race) (w : World) : Calls Tryz.prog 28 #[r.val] w fun e w' => e = .returned (.int .i64 (raceErr r)) ∧ Below w.heap.size w w' := by
  obtain ⟨key, metres, stroke, course, legs, sex, young, old⟩ := r
  dsimp only [Race.val, Race.cells]
  by_cases hc : course = 25 ∨ course = 50
  · by_cases hm : 25 ≤ metres ∧ metres ≤ 1500
    all_goals (rcases hc with rfl | rfl)
    all_goals
      go_enter Tryz.func28, Tryz.ntmps28
      go_wp2_with (first
        | (go_at_call 49; refine (key_c _ _).mono ?_; rintro e w1 ⟨rfl, hb1⟩; obtain ⟨C1, F1⟩ := bcell hb1; have hB1 := below_box hb1)
        | (go_at_call 50; refine (in_c _ _ _ _).mono ?_; rintro e w' ⟨rfl, rfl⟩))
      all_goals (go_ret; refine ⟨ret_i ?_, by with_reducible assumption⟩)
      all_goals (simp only [raceErr]; (repeat' split) <;> first | rfl | (exfalso; simp_all; done) | (exfalso; simp_all; omega))
  · have h25 : (course == 25) = false := by simp; omega
    have h50 : (course == 50) = false := by simp; omega
    have n25 : (course != 25) = true := by simp; omega
    have n50 : (course != 50) = true := by simp; omega
    have hc' := Lib.hid hc
    clear hc
    all_goals
      go_enter Tryz.func28, Tryz.ntmps28
      go_wp2_with (first
        | (go_at_call 49; refine (key_c _ _).mono ?_; rintro e w1 ⟨rfl, hb1⟩; obtain ⟨C1, F1⟩ := bcell hb1; have hB1 := below_box hb1)
        | (go_at_call 50; refine (in_c _ _ _ _).mono ?_; rintro e w' ⟨rfl, rfl⟩))
      all_goals (go_ret; refine ⟨ret_i ?_, by with_reducible assumption⟩)
      all_goals (have hc := hc'.out; simp only [raceErr]; (repeat' split) <;> first | rfl | (exfalso; simp_all; done) | (exfalso; simp_all; omega))

end Go.Proofs.YtnkhdofcmanipaaGreatDoor

/- How many lengths a race has: the program's and the reference's. -/
namespace Go.Proofs.YtnkhdofcmanipaaGreatDoor
open Go.RowKit
set_option linter.unusedVariables false

end Go.Proofs.YtnkhdofcmanipaaGreatDoor
