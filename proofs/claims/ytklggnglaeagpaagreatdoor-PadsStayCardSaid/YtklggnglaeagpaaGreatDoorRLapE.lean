import Derived.Test.YtklggnglaeagpaaGreatDoorRLapB
import Derived.Test.YtklggnglaeagpaaGreatDoorRLapP
import Derived.Deep.RegionHeld3
import Derived.Test.YtklggnglaeagpaaGreatDoorRMkReg
import Derived.Laws.OwnMore
import Derived.BigRegion
import Derived.Test.YtklggnglaeagpaaGreatDoorRPadF
import Derived.Deep.AppendLies
/- (*pace).off, (*pace).least. -/
namespace Go.Proofs.YtklggnglaeagpaaGreatDoor
open Go.RowKit Go.Lib
set_option linter.unusedVariables false

theorem listed_up {listed : Array Bool} {c : Nat} (i : Nat) (h : listed.getD c false = true) : (listed.setIfInBounds i true).getD c false = true := by
  by_cases hic : i = c
  · subst hic
    rw [Array.getD_eq_getD_getElem?] at h ⊢
    rw [Array.getElem?_setIfInBounds_self]
    split
    · rfl
    · rename_i hlt; rw [Array.getElem?_eq_none (by omega)] at h; cases h
  · rw [getD_set_other _ hic]; exact h
/-- a state, some calls, and one store behind them: what it wrote stands -/
def KW (KK : World → Prop) (calls : List Nat) (st : Nat) (p : Addr) (v : Value) (listed : Array Bool) (w' : World) : Prop := KK w' ∧ (listed.getD st false = true → (∀ c ∈ calls, listed.getD c false = true) ∧ w'.cell? p = some v)
theorem KW.keep {KK : World → Prop} {calls : List Nat} {st i : Nat} {p : Addr} {v : Value} {listed : Array Bool} {w' : World} (h : KW KK calls st p v listed w') (hi : i ≠ st) : KW KK calls st p v (listed.setIfInBounds i true) w' := ⟨h.1, fun e => by
  rw [getD_set_other _ hi] at e
  obtain ⟨h1, h2⟩ := h.2 e
  exact ⟨fun c hc => listed_up i (h1 c hc), h2⟩⟩
theorem KW.call {KK : World → Prop} {calls : List Nat} {st i : Nat} {p : Addr} {v : Value} {listed : Array Bool} {w' w1 : World} (h : KW KK calls st p v listed w') (h0 : listed.getD i true = false) (hc : i ∈ calls) (hi : i ≠ st) (hk : KK w1) : KW KK calls st p v (listed.setIfInBounds i true) w1 := ⟨hk, fun e => by
  rw [getD_set_other _ hi] at e
  have h9 := (h.2 e).1 i hc
  have his : i < listed.size := by
    rcases Nat.lt_or_ge i listed.size with h' | h'
    · exact h'
    · rw [Array.getD_eq_getD_getElem?, Array.getElem?_eq_none h'] at h0; cases h0
  rw [Array.getD_eq_getD_getElem?, Array.getElem?_eq_getElem his] at h0 h9
  simp only [Option.getD_some] at h0 h9
  rw [h0] at h9; cases h9⟩
theorem KW.store {KK : World → Prop} {calls : List Nat} {st : Nat} {p : Addr} {v : Value} {listed : Array Bool} {w1 : World} (hk : KK w1) (hc : ∀ c ∈ calls, listed.getD c false = true) (hv : w1.cell? p = some v) : KW KK calls st p v (listed.setIfInBounds st true) w1 := ⟨hk, fun _ => ⟨fun c h => listed_up st (hc c h), hv⟩⟩
theorem KW.start {KK : World → Prop} {calls : List Nat} {st n : Nat} {p : Addr} {v : Value} {w1 : World} (hk : KK w1) : KW KK calls st p v (Array.replicate n false) w1 := ⟨hk, fun e => by rw [rep_false] at e; cases e⟩
section
variable {w wx w' : World} {P KB : Nat} {rb : Nat → Nat} {N M m : Nat} {Ae : Option Addr} {ce : Nat} {Ag : Option Addr} {cg : Nat} {off : Nat → Nat → Int}
end
end Go.Proofs.YtklggnglaeagpaaGreatDoor

/- (*pace).stand. -/
namespace Go.Proofs.YtklggnglaeagpaaGreatDoor
open Go.RowKit Go.Lib
set_option linter.unusedVariables false

end Go.Proofs.YtklggnglaeagpaaGreatDoor

/- pad.laps. -/
namespace Go.Proofs.YtklggnglaeagpaaGreatDoor
open Go.RowKit Go.Lib
set_option linter.unusedVariables false

def lpE (x : LP.Lp) : List Value := [.int .i64 x.length, .int .i64 x.time, .bool x.filled]
theorem lpE_len : ∀ x, (lpE x).length = 3 := fun _ => rfl
abbrev RLp (w : World) (A : Option Addr) (n : Nat) (l : List LP.Lp) : Prop := RN 3 lpE 60 w A n l
/-- numbers of ends, rising, the last of them the last end -/
def UpL : Nat → Nat → List Nat → Prop
  | i, M, [] => i = M
  | i, M, k :: r => i ≤ k ∧ k < M ∧ UpL (k + 1) M r
theorem UpL.mono {M : Nat} : ∀ {l : List Nat} {i j : Nat}, l ≠ [] → UpL i M l → j ≤ i → UpL j M l
  | [], _, _, h, _, _ => absurd rfl h
  | k :: r, i, j, _, h, hj => ⟨by have := h.1; omega, h.2⟩
theorem UpL.at {M : Nat} : ∀ {l : List Nat} {i q k : Nat}, UpL i M l → l[q]? = some k → k < M ∧ i ≤ k ∧ UpL (k + 1) M (l.drop (q + 1))
  | [], _, _, _, _, h => by simp at h
  | a :: r, i, 0, k, h, hk => by
    obtain rfl : a = k := by simpa using hk
    exact ⟨h.2.1, h.1, h.2.2⟩
  | a :: r, i, q + 1, k, h, hk => by
    have := UpL.at h.2.2 (q := q) (by simpa using hk)
    exact ⟨this.1, by have := h.1; omega, this.2.2⟩
end Go.Proofs.YtklggnglaeagpaaGreatDoor
