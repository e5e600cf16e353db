import Derived.Test.YtcdoidhookghaaaDoorAhead2
import Derived.Test.YtcdoidhookghaaaDoorLens
import Derived.Deep.DeepCutAuto
/- How many hundredths all have for the rest: the reference's and the program's. -/
namespace Go.Proofs.YtcdoidhookghaaaDoor
open Go.RowKit
set_option linter.unusedVariables false

def needV (t : Int) (q : Nat) (sp : List Int) : Int := if q = 0 then t else t - sp.getD (q - 1) 0
def needsL (t : Int) (q : Nat) (l : List Sw) : List Pr := l.map fun x => ⟨x.who, itoaS (needV t q x.sp)⟩
theorem needsL_at {t : Int} {q : Nat} {l : List Sw} {k : Nat} {x : Sw} (h : l[k]? = some x) : needsL t q (l.drop k) = ⟨x.who, itoaS (needV t q x.sp)⟩ :: needsL t q (l.drop (k + 1)) := by rw [drop_at h]; rfl
end Go.Proofs.YtcdoidhookghaaaDoor

/- How many hundredths all have for the rest: the program's. -/
namespace Go.Proofs.YtcdoidhookghaaaDoor
open Go.RowKit
set_option linter.unusedVariables false

def needsErr (r : Race) (l : List Sw) (t len : Int) : Int := if fieldErr r l ≠ 0 then fieldErr r l else if ¬ (1 ≤ t ∧ t ≤ 360000) ∨ ¬ (0 ≤ len ∧ len ≤ lenV r) then 1 else 0
theorem field_needs {r : Race} {l : List Sw} {w : World} {A : Option Addr} {n q : Nat} (h : RSw w A n l) (hf : fieldErr r l = 0) (hq : (q : Int) ≤ lenV r) : n ≤ 1000 ∧ (∀ x ∈ l, q ≤ x.n) ∧ ∀ x ∈ l, ∀ y ∈ x.sp, 0 ≤ y ∧ y ≤ 360000 := by
  obtain ⟨_, hn20, hxe⟩ := fieldErr_ok hf
  rw [h.len] at hn20
  refine ⟨by omega, fun x hx => ?_, fun x hx => (splits_bd (wholeErr_ok (hxe x hx)).1).2.2⟩
  have h1 := whole_len (hxe x hx)
  have h2 := (h.2 x hx).len
  omega
end Go.Proofs.YtcdoidhookghaaaDoor

/- Ahead and Needs whole: errors and lists in one contract each; their reference twins under 'no error'. -/
namespace Go.Proofs.YtcdoidhookghaaaDoor
open Go.RowKit
set_option linter.unusedVariables false

def aheadLs (r : Race) (l : List Sw) (sp : List Int) : List Pr := if aheadE r l sp = 0 then aheadL (sp.getLastD 0) l else []
def needsLs (r : Race) (l : List Sw) (t len : Int) : List Pr := if needsErr r l t len = 0 then needsL t len.toNat l else []
theorem aheadA_c (r : Race) (A B : Option Addr) (n c m d : Nat) (l : List Sw) (sp : List Int) (w : World) (h : RSw w A n l) (hs : RI 3 w B m sp) (htab : Tb w) :
    Calls Tryd.prog 49 #[r.val, .slice A n c, .slice B m d] w fun e w' => ∃ A' n' c', e = .returned (.tuple #[.slice A' n' c', .int .i64 (aheadE r l sp)]) ∧ RPr w' A' n' (aheadLs r l sp) ∧ Below w.heap.size w w' := by
  unfold aheadLs
  by_cases h0 : aheadE r l sp = 0
  · rw [if_pos h0, h0]
    refine (ahead_c r A B n c m d l sp w h hs htab h0).mono ?_
    rintro e w' ⟨A', c', he, hr, hB⟩
    exact ⟨A', n, c', he, hr, hB⟩
  · rw [if_neg h0]
    refine (ahead_err r A B n c m d l sp w h hs h0).mono ?_
    rintro e w' ⟨he, hB⟩
    exact ⟨none, 0, 0, he, RN.nil_ _ _ _ _ _, hB⟩
theorem needsE_ok {r : Race} {l : List Sw} {t len : Int} (hE : needsErr r l t len = 0) : fieldErr r l = 0 ∧ 1 ≤ t ∧ t ≤ 360000 ∧ 0 ≤ len ∧ len ≤ lenV r := by
  unfold needsErr at hE; split at hE
  · rename_i h1; exact absurd hE h1
  · split at hE
    · cases hE
    · rename_i h1 h2; exact ⟨by simpa using h1, by omega, by omega, by omega, by omega⟩
/-- the reference's way to the fault of Needs -/
theorem needs_way {r : Race} {l : List Sw} {t len : Int} : (if orV [fieldErr r l, timeErr t] = 0 then spanErr len 0 (lenV r) else orV [fieldErr r l, timeErr t]) = needsErr r l t len := by
  rw [orV_two]
  unfold needsErr timeErr spanErr
  by_cases h1 : fieldErr r l = 0
  · by_cases h2 : 1 ≤ t ∧ t ≤ 360000
    · by_cases h3 : 0 ≤ len ∧ len ≤ lenV r
      · simp [h1, h2, h3]
      · simp [h1, h2, h3]
    · simp [h1, h2]
  · simp [h1]
theorem ahead_way {r : Race} {l : List Sw} {sp : List Int} : orV [fieldErr r l, wholeErr r sp] = aheadE r l sp := by
  rw [orV_two]; rfl
end Go.Proofs.YtcdoidhookghaaaDoor
