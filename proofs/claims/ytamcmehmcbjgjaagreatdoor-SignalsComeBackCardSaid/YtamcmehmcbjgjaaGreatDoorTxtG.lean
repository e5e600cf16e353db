/- Signals as text: the plain law. -/
import Derived.Test.YtamcmehmcbjgjaaGreatDoorTxtF
import Derived.Test.YtamcmehmcbjgjaaGreatDoorSigD
namespace Go.Proofs.YtamcmehmcbjgjaaGreatDoor
open Go.Lib
set_option linter.unusedVariables false

/-- the words of the kinds: start, pad, button, watch -/
def sgWord (k : Int) : List UInt8 := if k = 1 then [115, 116, 97, 114, 116] else if k = 2 then [112, 97, 100] else if k = 3 then [98, 117, 116, 116, 111, 110] else [119, 97, 116, 99, 104]
def sgKind (w : List UInt8) : Int := if w = [115, 116, 97, 114, 116] then 1 else if w = [112, 97, 100] then 2 else if w = [98, 117, 116, 116, 111, 110] then 3 else if w = [119, 97, 116, 99, 104] then 4 else 0
def sgWs (x : Sg) : List (List UInt8) := [x.dev.data.toList, itoa x.no, sgWord x.kind, itoa x.tm, itoa x.lane] ++ if x.kind = 4 then [itoa x.time] else []
/-- a line of signals, without its end -/
def sgLine (x : Sg) : List UInt8 := join (sgWs x) [32]
def sgFin (d : List UInt8) (k : Int) (ns : Option (List Int)) : Option Sg := match ns with
  | some [a, b, c] => if 1 ≤ k ∧ k ≠ 4 then some ⟨⟨d.toArray⟩, a, k, b, c, 0⟩ else none
  | some [a, b, c, t] => if k = 4 then some ⟨⟨d.toArray⟩, a, k, b, c, t⟩ else none
  | _ => none
def sgParse (a : List UInt8) : Option Sg := if [] ∈ spl 32 a then none else match spl 32 a with
  | d :: n :: k :: p :: q :: r => sgFin d (sgKind k) (numsP (n :: p :: q :: r) 12)
  | _ => none
def sgText (l : List Sg) : List UInt8 := l.flatMap fun x => sgLine x ++ [10]
def sgRd (t : List UInt8) : List (List UInt8) × Nat × Bool := lnR (fun a => (sgParse a).isSome) t
def sgRecs (t : List UInt8) : List Sg := (sgRd t).1.filterMap sgParse
theorem sgKind_word {k : Int} (h1 : 1 ≤ k) (h2 : k ≤ 4) : sgKind (sgWord k) = k := by
  have h : k = 1 ∨ k = 2 ∨ k = 3 ∨ k = 4 := by omega
  rcases h with rfl | rfl | rfl | rfl <;> decide
theorem sgWord_kind {w : List UInt8} (h : 1 ≤ sgKind w) : sgWord (sgKind w) = w ∧ sgKind w ≤ 4 := by
  unfold sgKind at *
  split
  · rename_i e; rw [e]; decide
  · split
    · rename_i e; rw [e]; decide
    · split
      · rename_i e; rw [e]; decide
      · split
        · rename_i e; rw [e]; decide
        · rename_i a b c d; rw [if_neg a, if_neg b, if_neg c, if_neg d] at h; exact absurd h (by decide)
theorem sgWord_no {k : Int} {c : UInt8} (h : c = 32 ∨ c = 10) : c ∉ sgWord k := by
  unfold sgWord
  rcases h with rfl | rfl <;> (split; · decide) <;> (split; · decide) <;> (split; · decide) <;> decide
theorem sgWord_ne (k : Int) : sgWord k ≠ [] := by
  unfold sgWord
  (split; · decide); (split; · decide); (split; · decide); decide
/-- what a signal must be to be read as it was -/
structure SgT (x : Sg) : Prop where
  key : keyB x.dev = true
  k1 : 1 ≤ x.kind
  k2 : x.kind ≤ 4
  no : x.no.natAbs < 10 ^ 12
  tm : x.tm.natAbs < 10 ^ 12
  lane : x.lane.natAbs < 10 ^ 12
  time : x.time.natAbs < 10 ^ 12
  t0 : x.kind ≠ 4 → x.time = 0
theorem sgWs_no {x : Sg} (h : SgT x) : ∀ w ∈ sgWs x, (32 : UInt8) ∉ w ∧ (10 : UInt8) ∉ w ∧ w ≠ [] := by
  obtain ⟨k1, _, _⟩ := key_bytes h.key
  have hi : ∀ n : Int, (32 : UInt8) ∉ itoa n ∧ (10 : UInt8) ∉ itoa n ∧ itoa n ≠ [] := fun n => ⟨itoa_no n (by decide) (by decide), itoa_no n (by decide) (by decide), itoa_ne n⟩
  intro w hw
  unfold sgWs at hw
  rcases List.mem_append.1 hw with hw | hw
  · simp only [List.mem_cons, List.not_mem_nil, or_false] at hw
    rcases hw with rfl | rfl | rfl | rfl | rfl
    · exact ⟨key_no h.key (by decide), key_no h.key (by decide), k1⟩
    · exact hi _
    · exact ⟨sgWord_no (.inl rfl), sgWord_no (.inr rfl), sgWord_ne _⟩
    · exact hi _
    · exact hi _
  · split at hw
    · rw [List.mem_singleton.1 hw]; exact hi _
    · cases hw
theorem sg_parse_line {x : Sg} (h : SgT x) : sgParse (sgLine x) = some x ∧ (10 : UInt8) ∉ sgLine x := by
  have hno := sgWs_no h
  have hs : spl 32 (sgLine x) = sgWs x := spl_join 32 _ (by unfold sgWs; simp) fun w hw => (hno w hw).1
  constructor
  · unfold sgParse
    rw [hs, if_neg (fun hm => (hno _ hm).2.2 rfl)]
    unfold sgWs
    by_cases h4 : x.kind = 4
    · rw [if_pos h4]
      show sgFin _ (sgKind (sgWord x.kind)) (numsP ([x.no, x.tm, x.lane, x.time].map itoa) 12) = some x
      rw [sgKind_word h.k1 h.k2, numsP_iff.2 ⟨rfl, fun n hn => by
        simp only [List.mem_cons, List.not_mem_nil, or_false] at hn
        rcases hn with rfl | rfl | rfl | rfl
        · exact dd_le (by decide) h.no
        · exact dd_le (by decide) h.tm
        · exact dd_le (by decide) h.lane
        · exact dd_le (by decide) h.time⟩]
      unfold sgFin
      dsimp only
      rw [if_pos h4, Array.toArray_toList]
    · rw [if_neg h4]
      show sgFin _ (sgKind (sgWord x.kind)) (numsP ([x.no, x.tm, x.lane].map itoa) 12) = some x
      rw [sgKind_word h.k1 h.k2, numsP_iff.2 ⟨rfl, fun n hn => by
        simp only [List.mem_cons, List.not_mem_nil, or_false] at hn
        rcases hn with rfl | rfl | rfl
        · exact dd_le (by decide) h.no
        · exact dd_le (by decide) h.tm
        · exact dd_le (by decide) h.lane⟩]
      unfold sgFin
      dsimp only
      rw [if_pos ⟨h.k1, h4⟩, Array.toArray_toList, ← h.t0 h4]
  · intro hm
    rcases mem_join hm with hm | ⟨w, hw, hm⟩
    · revert hm; decide
    · exact (hno w hw).2.1 hm
theorem sgFin_some {d : List UInt8} {k : Int} {ns : Option (List Int)} {x : Sg} (h : sgFin d k ns = some x) : x.dev = ⟨d.toArray⟩ ∧ x.kind = k ∧ 1 ≤ k ∧ ((k ≠ 4 ∧ x.time = 0 ∧ ns = some [x.no, x.tm, x.lane]) ∨ (k = 4 ∧ ns = some [x.no, x.tm, x.lane, x.time])) := by
  unfold sgFin at h
  split at h
  · split at h
    · rename_i hk
      obtain rfl := Option.some.inj h
      exact ⟨rfl, rfl, hk.1, .inl ⟨hk.2, rfl, rfl⟩⟩
    · cases h
  · split at h
    · rename_i hk
      obtain rfl := Option.some.inj h
      exact ⟨rfl, rfl, by omega, .inr ⟨hk, rfl⟩⟩
    · cases h
  · cases h
theorem sg_line_parse (a : List UInt8) (x : Sg) (h : sgParse a = some x) : sgLine x = a := by
  unfold sgParse at h
  split at h
  · cases h
  · split at h
    · rename_i d n k p q r hs
      obtain ⟨e1, e2, e3, e4⟩ := sgFin_some h
      have ha := join_spl 32 a
      rw [hs] at ha
      rw [← ha]
      unfold sgLine
      congr 1
      obtain ⟨w1, _⟩ := sgWord_kind e3
      unfold sgWs
      rw [e1, e2, w1]
      rcases e4 with ⟨f1, f2, f3⟩ | ⟨f1, f3⟩
      · obtain ⟨g1, _⟩ := numsP_iff.1 f3
        simp only [List.map_cons, List.map_nil, List.cons.injEq] at g1
        rw [if_neg f1, g1.1, g1.2.1, g1.2.2.1, g1.2.2.2]
        rfl
      · obtain ⟨g1, _⟩ := numsP_iff.1 f3
        simp only [List.map_cons, List.map_nil, List.cons.injEq] at g1
        rw [if_pos f1, g1.1, g1.2.1, g1.2.2.1, g1.2.2.2]
        rfl
    · cases h
theorem sg_read_text {l : List Sg} (h : ∀ x ∈ l, SgT x) : sgRd (sgText l) = (l.map sgLine, 0, true) ∧ sgRecs (sgText l) = l := by
  obtain ⟨h1, h2⟩ := lnR_recs sgParse sgLine id l (fun x hx => sg_parse_line (h x hx))
  have h3 : sgRd (sgText l) = (l.map sgLine, 0, true) := h1
  refine ⟨h3, ?_⟩
  unfold sgRecs
  rw [h3, h2, List.map_id]
theorem sg_text_read {t : List UInt8} (h : (sgRd t).2.2 = true) : sgText (sgRecs t) = t := recs_lnR sgParse sgLine sg_line_parse t h
end Go.Proofs.YtamcmehmcbjgjaaGreatDoor
