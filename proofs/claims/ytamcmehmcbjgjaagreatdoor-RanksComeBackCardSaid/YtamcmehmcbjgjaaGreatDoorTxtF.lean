/- A field as text: the plain law (what is written is read as it was; what is read is written so). -/
import Derived.Test.YtamcmehmcbjgjaaGreatDoorTxtP
import Derived.Test.YtamcmehmcbjgjaaGreatDoorTimeR
import Derived.Test.YtamcmehmcbjgjaaGreatDoorBestR
namespace Go.Proofs.YtamcmehmcbjgjaaGreatDoor
open Go.Lib
set_option linter.unusedVariables false

theorem trimS_nil {l cs : List UInt8} (h : trimS l cs = []) : ∀ b ∈ l, cs.contains b = true := by
  have e1 : trimS l cs = (l.reverse.dropWhile (cs.contains ·)).reverse.dropWhile (cs.contains ·) := by
    simp [trimS, trimLeftS, trimRightS]
  rw [e1, dropWhile_nil] at h
  have h2 : l.reverse.dropWhile (cs.contains ·) = [] := by
    rcases hd : l.reverse.dropWhile (cs.contains ·) with _ | ⟨x, r⟩
    · rfl
    · have h3 := dropWhile_head _ _ _ _ hd
      have h4 := h x (by rw [hd]; simp)
      rw [h3] at h4; cases h4
  rw [dropWhile_nil] at h2
  intro b hb
  exact h2 b (by simpa using hb)
theorem key_bytes {s : ByteArray} (h : keyB s = true) : s.data.toList ≠ [] ∧ s.size ≤ 40 ∧ ∀ b ∈ s.data.toList, keySet.contains b = true := by
  unfold keyB at h
  simp only [Bool.and_eq_true, decide_eq_true_eq] at h
  obtain ⟨⟨⟨h1, h2⟩, _⟩, h3⟩ := h
  have hs : s.data.toList.length = s.size := Array.length_toList
  refine ⟨fun e => by rw [e, List.length_nil] at hs; omega, h2, trimS_nil ?_⟩
  rw [ByteArray.toList_eq, List.isEmpty_iff] at h3
  simpa [keyTrim] using h3
theorem key_no {s : ByteArray} (h : keyB s = true) {c : UInt8} (hc : keySet.contains c = false) : c ∉ s.data.toList := fun e => by
  rw [(key_bytes h).2.2 c e] at hc; cases hc
/-- a line of a field, without its end -/
def fdLine (x : ByteArray × List Int) : List UInt8 := x.1.data.toList ++ 32 :: join (x.2.map itoa) [44]
def fdParse (a : List UInt8) : Option (ByteArray × List Int) := match spl 32 a with
  | [x, y] => if x = [] ∨ y = [] then none else (numsP (spl 44 y) 6).map fun ns => (⟨x.toArray⟩, ns)
  | _ => none
def fdOf (x : Sw) : ByteArray × List Int := (x.who, x.sp)
def fdText (l : List (ByteArray × List Int)) : List UInt8 := l.flatMap fun x => fdLine x ++ [10]
def fdRd (t : List UInt8) : List (List UInt8) × Nat × Bool := lnR (fun a => (fdParse a).isSome) t
def fdRecs (t : List UInt8) : List (ByteArray × List Int) := (fdRd t).1.filterMap fdParse
theorem fd_nums_no {ns : List Int} {c : UInt8} (h1 : c ≠ 45) (h2 : dig c = false) (h3 : c ≠ 44) : c ∉ join (ns.map itoa) [44] := fun h => by
  rcases mem_join h with h | ⟨x, hx, h⟩
  · exact h3 (List.mem_singleton.1 h)
  · obtain ⟨n, _, rfl⟩ := List.mem_map.1 hx
    exact itoa_no n h1 h2 h
theorem fd_parse_line {x : ByteArray × List Int} (hk : keyB x.1 = true) (hn : x.2 ≠ []) (hs : ∀ n ∈ x.2, n.natAbs < 10 ^ 6) : fdParse (fdLine x) = some x ∧ (10 : UInt8) ∉ fdLine x := by
  obtain ⟨k1, _, _⟩ := key_bytes hk
  constructor
  · unfold fdParse fdLine
    rw [spl_at 32 _ _ (key_no hk (by decide)), spl_no 32 _ (fd_nums_no (by decide) (by decide) (by decide))]
    dsimp only
    rw [if_neg (by intro h; rcases h with h | h; exact k1 h; exact join_itoa_ne hn _ h), spl_join 44 _ (by simpa using hn) (fun y hy => by
      obtain ⟨n, _, rfl⟩ := List.mem_map.1 hy
      exact itoa_no n (by decide) (by decide)), numsP_iff.2 ⟨rfl, fun n h => dd_le (by decide) (hs n h)⟩]
    show some ((⟨x.1.data.toList.toArray⟩ : ByteArray), x.2) = some x
    rw [Array.toArray_toList]
  · unfold fdLine
    intro h
    rcases List.mem_append.1 h with h | h
    · exact key_no hk (by decide) h
    · rcases List.mem_cons.1 h with h | h
      · revert h; decide
      · exact fd_nums_no (by decide) (by decide) (by decide) h
theorem fd_line_parse (a : List UInt8) (x : ByteArray × List Int) (h : fdParse a = some x) : fdLine x = a := by
  unfold fdParse at h
  split at h
  · rename_i p q hs
    split at h
    · cases h
    · cases hn : numsP (spl 44 q) 6 with
      | none => rw [hn] at h; cases h
      | some ns =>
        rw [hn] at h
        obtain rfl := (Option.some.inj h : ((⟨p.toArray⟩ : ByteArray), ns) = x)
        obtain ⟨e1, _⟩ := numsP_iff.1 hn
        have hq := join_spl 44 q
        rw [e1] at hq
        have ha := join_spl 32 a
        rw [hs, join_two, join_one] at ha
        unfold fdLine
        dsimp only
        rw [hq, ← ha]
        simp
  · cases h
theorem fd_read_text {l : List (ByteArray × List Int)} (h : ∀ x ∈ l, keyB x.1 = true ∧ x.2 ≠ [] ∧ ∀ n ∈ x.2, n.natAbs < 10 ^ 6) : fdRd (fdText l) = (l.map fdLine, 0, true) ∧ fdRecs (fdText l) = l := by
  obtain ⟨h1, h2⟩ := lnR_recs fdParse fdLine id l (fun x hx => by
    obtain ⟨a, b, c⟩ := h x hx
    exact fd_parse_line a b c)
  have h3 : fdRd (fdText l) = (l.map fdLine, 0, true) := h1
  refine ⟨h3, ?_⟩
  unfold fdRecs
  rw [h3, h2, List.map_id]
theorem fd_text_read {t : List UInt8} (h : (fdRd t).2.2 = true) : fdText (fdRecs t) = t := recs_lnR fdParse fdLine fd_line_parse t h
end Go.Proofs.YtamcmehmcbjgjaaGreatDoor
