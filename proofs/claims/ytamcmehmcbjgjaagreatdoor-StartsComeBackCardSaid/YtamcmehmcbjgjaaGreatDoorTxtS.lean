/- Starts as text: the plain law. -/
import Derived.Test.YtamcmehmcbjgjaaGreatDoorTxtF
import Derived.Test.YtamcmehmcbjgjaaGreatDoorStartC
namespace Go.Proofs.YtamcmehmcbjgjaaGreatDoor
open Go.Lib
set_option linter.unusedVariables false

/-- bounds of what is written -/
def SpBd (x : Sp) : Prop := x.who.size ≤ 100 ∧ (-9223372036854775808 ≤ x.heat ∧ x.heat ≤ 9223372036854775807) ∧ (-9223372036854775808 ≤ x.lane ∧ x.lane ≤ 9223372036854775807)
/-- a line of starts, without its end -/
def stLine (x : Sp) : List UInt8 := itoa x.heat ++ 32 :: (itoa x.lane ++ 32 :: x.who.data.toList)
def stParse (a : List UInt8) : Option Sp := match spl 32 a with
  | [x, y, z] => if x = [] ∨ y = [] ∨ z = [] then none else (match numsP [x, y] 4 with
    | some [m, n] => some ⟨⟨z.toArray⟩, m, n⟩
    | _ => none)
  | _ => none
def stText (l : List Sp) : List UInt8 := l.flatMap fun x => stLine x ++ [10]
def stRd (t : List UInt8) : List (List UInt8) × Nat × Bool := lnR (fun a => (stParse a).isSome) t
def stRecs (t : List UInt8) : List Sp := (stRd t).1.filterMap stParse
theorem st_parse_line {x : Sp} (hk : keyB x.who = true) (h1 : x.heat.natAbs < 10 ^ 4) (h2 : x.lane.natAbs < 10 ^ 4) : stParse (stLine x) = some x ∧ (10 : UInt8) ∉ stLine x := by
  obtain ⟨k1, _, _⟩ := key_bytes hk
  constructor
  · unfold stParse stLine
    rw [spl_at 32 _ _ (itoa_no _ (by decide) (by decide)), spl_at 32 _ _ (itoa_no _ (by decide) (by decide)), spl_no 32 _ (key_no hk (by decide))]
    dsimp only
    rw [if_neg (by
      intro h
      rcases h with h | h | h
      · exact itoa_ne _ h
      · exact itoa_ne _ h
      · exact k1 h), show numsP [itoa x.heat, itoa x.lane] 4 = some [x.heat, x.lane] from numsP_iff.2 ⟨rfl, fun n hn => by
        rcases List.mem_cons.1 hn with rfl | hn
        · exact dd_le (by decide) h1
        · rw [List.mem_singleton.1 hn]; exact dd_le (by decide) h2⟩]
  · unfold stLine
    intro h
    rcases List.mem_append.1 h with h | h
    · exact itoa_no _ (by decide) (by decide) h
    · rcases List.mem_cons.1 h with h | h
      · revert h; decide
      · rcases List.mem_append.1 h with h | h
        · exact itoa_no _ (by decide) (by decide) h
        · rcases List.mem_cons.1 h with h | h
          · revert h; decide
          · exact key_no hk (by decide) h
theorem st_line_parse (a : List UInt8) (x : Sp) (h : stParse a = some x) : stLine x = a := by
  unfold stParse at h
  split at h
  · rename_i p q r hs
    split at h
    · cases h
    · split at h
      · rename_i m n hn
        obtain rfl := (Option.some.inj h : (⟨⟨r.toArray⟩, m, n⟩ : Sp) = x)
        obtain ⟨e1, _⟩ := numsP_iff.1 hn
        simp only [List.map_cons, List.map_nil, List.cons.injEq] at e1
        have ha := join_spl 32 a
        rw [hs, join_two, join_two, join_one] at ha
        unfold stLine
        dsimp only
        rw [← e1.1, ← e1.2.1, ← ha]
        simp
      · cases h
  · cases h
theorem st_read_text {l : List Sp} (h : ∀ x ∈ l, keyB x.who = true ∧ x.heat.natAbs < 10 ^ 4 ∧ x.lane.natAbs < 10 ^ 4) : stRd (stText l) = (l.map stLine, 0, true) ∧ stRecs (stText l) = l := by
  obtain ⟨h1, h2⟩ := lnR_recs stParse stLine id l (fun x hx => by
    obtain ⟨a, b, c⟩ := h x hx
    exact st_parse_line a b c)
  have h3 : stRd (stText l) = (l.map stLine, 0, true) := h1
  refine ⟨h3, ?_⟩
  unfold stRecs
  rw [h3, h2, List.map_id]
theorem st_text_read {t : List UInt8} (h : (stRd t).2.2 = true) : stText (stRecs t) = t := recs_lnR stParse stLine st_line_parse t h
end Go.Proofs.YtamcmehmcbjgjaaGreatDoor
