/- How long the text of a field is. -/
import Derived.Test.YtamcmehmcbjgjaaGreatDoorTxtF
namespace Go.Proofs.YtamcmehmcbjgjaaGreatDoor
open Go.Lib
set_option linter.unusedVariables false

theorem itoa_len {y : Int} (h0 : 0 ≤ y) (h1 : y ≤ 999999) : (itoa y).length ≤ 6 := by
  have h := dd_le (u := y.toNat) (k := 6) (by decide) (by omega)
  unfold itoa
  rw [if_neg (by omega)]
  exact h
theorem join_len : ∀ (xs : List (List UInt8)), (∀ x ∈ xs, x.length ≤ 6) → (join xs [44]).length ≤ 7 * xs.length
  | [], _ => by simp [join]
  | [x], h => by
    have := h x (List.mem_cons_self ..)
    show (join [x] [44]).length ≤ 7
    rw [show join [x] [44] = x by simp [join]]
    omega
  | x :: y :: r, h => by
    have h1 := h x (List.mem_cons_self ..)
    have ih := join_len (y :: r) fun z hz => h z (List.mem_cons_of_mem _ hz)
    rw [join_two]
    simp only [List.length_append, List.length_cons, List.length_nil] at ih ⊢
    omega
theorem fdText_len : ∀ (L : List (ByteArray × List Int)), (∀ d ∈ L, d.1.size ≤ 40 ∧ d.2.length ≤ 300 ∧ ∀ y ∈ d.2, 0 ≤ y ∧ y ≤ 999999) → (fdText L).length ≤ 2150 * L.length
  | [], _ => by simp [fdText]
  | d :: L, h => by
    obtain ⟨h1, h2, h3⟩ := h d (List.mem_cons_self ..)
    have ih := fdText_len L fun z hz => h z (List.mem_cons_of_mem _ hz)
    have hj := join_len (d.2.map itoa) fun x hx => by
      obtain ⟨y, hy, rfl⟩ := List.mem_map.1 hx
      exact itoa_len (h3 y hy).1 (h3 y hy).2
    have hs : d.1.data.toList.length = d.1.size := Array.length_toList
    rw [List.length_map] at hj
    have e : fdText (d :: L) = (fdLine d ++ [10]) ++ fdText L := rfl
    rw [e]
    unfold fdLine
    simp only [List.length_append, List.length_cons, List.length_nil]
    omega
end Go.Proofs.YtamcmehmcbjgjaaGreatDoor
