import Derived.Test.YtklggnglaeagpaaGreatDoorTxtP
import Derived.Test.YtklggnglaeagpaaGreatDoorTimeR
import Derived.Test.YtklggnglaeagpaaGreatDoorBestR
import Derived.Test.YtklggnglaeagpaaGreatDoorP23
/- A field as text: the plain law (what is written is read as it was; what is read is written so). -/
namespace Go.Proofs.YtklggnglaeagpaaGreatDoor
open Go.Lib
set_option linter.unusedVariables false

theorem trimS_nil {l cs : List UInt8} (h : trimS l cs = []) : ∀ b ∈ l, cs.contains b = true := by
  have e1 : trimS l cs = (l.reverse.dropWhile (cs.contains ·)).reverse.dropWhile (cs.contains ·) := by
    simp [trimS, trimLeftS, trimRightS]
  rw [e1, dropWhile_nil] at h
  have h2 : l.reverse.dropWhile (cs.contains ·) = [] := by
    rcases hd : l.reverse.dropWhile (cs.contains ·) with _ | ⟨x, r⟩
    · rfl
    · have h3 := dropWhile_head _ _ _ _ hd
      have h4 := h x (by rw [hd]; simp)
      rw [h3] at h4; cases h4
  rw [dropWhile_nil] at h2
  intro b hb
  exact h2 b (by simpa using hb)
theorem key_bytes {s : ByteArray} (h : keyB s = true) : s.data.toList ≠ [] ∧ s.size ≤ 40 ∧ ∀ b ∈ s.data.toList, keySet.contains b = true := by
  unfold keyB at h
  simp only [Bool.and_eq_true, decide_eq_true_eq] at h
  obtain ⟨⟨⟨h1, h2⟩, _⟩, h3⟩ := h
  have hs : s.data.toList.length = s.size := Array.length_toList
  refine ⟨fun e => by rw [e, List.length_nil] at hs; omega, h2, trimS_nil ?_⟩
  rw [ByteArray.toList_eq, List.isEmpty_iff] at h3
  simpa [keyTrim] using h3
theorem key_no {s : ByteArray} (h : keyB s = true) {c : UInt8} (hc : keySet.contains c = false) : c ∉ s.data.toList := fun e => by
  rw [(key_bytes h).2.2 c e] at hc; cases hc
/-- a line of a field, without its end -/
def fdLine (x : ByteArray × List Int) : List UInt8 := x.1.data.toList ++ 32 :: join (x.2.map itoa) [44]
def fdParse (a : List UInt8) : Option (ByteArray × List Int) := match spl 32 a with
  | [x, y] => if x = [] ∨ y = [] then none else (numsP (spl 44 y) 6).map fun ns => (⟨x.toArray⟩, ns)
  | _ => none
def fdOf (x : Sw) : ByteArray × List Int := (x.who, x.sp)
def fdText (l : List (ByteArray × List Int)) : List UInt8 := l.flatMap fun x => fdLine x ++ [10]
def fdRd (t : List UInt8) : List (List UInt8) × Nat × Bool := lnR (fun a => (fdParse a).isSome) t
def fdRecs (t : List UInt8) : List (ByteArray × List Int) := (fdRd t).1.filterMap fdParse
theorem fd_nums_no {ns : List Int} {c : UInt8} (h1 : c ≠ 45) (h2 : dig c = false) (h3 : c ≠ 44) : c ∉ join (ns.map itoa) [44] := fun h => by
  rcases mem_join h with h | ⟨x, hx, h⟩
  · exact h3 (List.mem_singleton.1 h)
  · obtain ⟨n, _, rfl⟩ := List.mem_map.1 hx
    exact itoa_no n h1 h2 h
theorem fd_parse_line {x : ByteArray × List Int} (hk : keyB x.1 = true) (hn : x.2 ≠ []) (hs : ∀ n ∈ x.2, n.natAbs < 10 ^ 6) : fdParse (fdLine x) = some x ∧ (10 : UInt8) ∉ fdLine x := by
  obtain ⟨k1, _, _⟩ := key_bytes hk
  constructor
  · unfold fdParse fdLine
    rw [spl_at 32 _ _ (key_no hk (by decide)), spl_no 32 _ (fd_nums_no (by decide) (by decide) (by decide))]
    dsimp only
    rw [if_neg (by intro h; rcases h with h | h; exact k1 h; exact join_itoa_ne hn _ h), spl_join 44 _ (by simpa using hn) (fun y hy => by
      obtain ⟨n, _, rfl⟩ := List.mem_map.1 hy
      exact itoa_no n (by decide) (by decide)), numsP_iff.2 ⟨rfl, fun n h => dd_le (by decide) (hs n h)⟩]
    show some ((⟨x.1.data.toList.toArray⟩ : ByteArray), x.2) = some x
    rw [Array.toArray_toList]
  · unfold fdLine
    intro h
    rcases List.mem_append.1 h with h | h
    · exact key_no hk (by decide) h
    · rcases List.mem_cons.1 h with h | h
      · revert h; decide
      · exact fd_nums_no (by decide) (by decide) (by decide) h
theorem fd_line_parse (a : List UInt8) (x : ByteArray × List Int) (h : fdParse a = some x) : fdLine x = a := by
  unfold fdParse at h
  split at h
  · rename_i p q hs
    split at h
    · cases h
    · cases hn : numsP (spl 44 q) 6 with
      | none => rw [hn] at h; cases h
      | some ns =>
        rw [hn] at h
        obtain rfl := (Option.some.inj h : ((⟨p.toArray⟩ : ByteArray), ns) = x)
        obtain ⟨e1, _⟩ := numsP_iff.1 hn
        have hq := join_spl 44 q
        rw [e1] at hq
        have ha := join_spl 32 a
        rw [hs, join_two, join_one] at ha
        unfold fdLine
        dsimp only
        rw [hq, ← ha]
        simp
  · cases h
theorem fd_read_text {l : List (ByteArray × List Int)} (h : ∀ x ∈ l, keyB x.1 = true ∧ x.2 ≠ [] ∧ ∀ n ∈ x.2, n.natAbs < 10 ^ 6) : fdRd (fdText l) = (l.map fdLine, 0, true) ∧ fdRecs (fdText l) = l := by
  obtain ⟨h1, h2⟩ := lnR_recs fdParse fdLine id l (fun x hx => by
    obtain ⟨a, b, c⟩ := h x hx
    exact fd_parse_line a b c)
  have h3 : fdRd (fdText l) = (l.map fdLine, 0, true) := h1
  refine ⟨h3, ?_⟩
  unfold fdRecs
  rw [h3, h2, List.map_id]
theorem fd_text_read {t : List UInt8} (h : (fdRd t).2.2 = true) : fdText (fdRecs t) = t := recs_lnR fdParse fdLine fd_line_parse t h
end Go.Proofs.YtklggnglaeagpaaGreatDoor

/- Ranks as text: the plain law. -/
namespace Go.Proofs.YtklggnglaeagpaaGreatDoor
open Go.Lib
set_option linter.unusedVariables false

def rkTime (n : Int) : List UInt8 := if 0 < n then writeP n.toNat else [45]
/-- a line of ranks, without its end -/
def rkLine (x : Rk) : List UInt8 := itoa x.rank ++ 32 :: (x.who.data.toList ++ 32 :: (rkTime x.time ++ 32 :: itoa x.fault))
def rkTm (t : List UInt8) : Option Int := if t = [45] then some 0 else if (parseP t).2 = 0 then some (parseP t).1 else none
def rkParse (a : List UInt8) : Option Rk := match spl 32 a with
  | [r, w, t, f] => if r = [] ∨ w = [] ∨ t = [] ∨ f = [] then none else (match numsP [r, f] 4, rkTm t with
    | some [m, n], some v => some ⟨⟨w.toArray⟩, m, v, n⟩
    | _, _ => none)
  | _ => none
def rkText (l : List Rk) : List UInt8 := l.flatMap fun x => rkLine x ++ [10]
def rkRd (t : List UInt8) : List (List UInt8) × Nat × Bool := lnR (fun a => (rkParse a).isSome) t
def rkRecs (t : List UInt8) : List Rk := (rkRd t).1.filterMap rkParse
theorem u8_small : ∀ n : Nat, n < 10 → dig (UInt8.ofNat (48 + n)) = true := dg_dig
theorem write_bytes {n : Nat} (h : n ≤ 360000) : ∀ b ∈ writeP n, b = 46 ∨ b = 58 ∨ dig b = true := by
  have d2 : ∀ m : Nat, m < 100 → (digP m).all dig = true := digP_more
  have t2 : ∀ m : Nat, m < 100 → ∀ b ∈ twoP m, dig b = true := fun m hm b hb => by
    unfold twoP at hb
    rcases List.mem_cons.1 hb with rfl | hb
    · exact dg_dig _ (by omega)
    · rw [List.mem_singleton.1 hb]; exact dg_dig _ (by omega)
  have d3 : ∀ m : Nat, m < 100 → ∀ b ∈ digP m, dig b = true := fun m hm b hb => List.all_eq_true.1 (d2 m hm) b hb
  intro b hb
  unfold writeP at hb
  split at hb
  · rcases List.mem_append.1 hb with hb | hb
    · exact .inr (.inr (d3 _ (by omega) b hb))
    · rcases List.mem_cons.1 hb with hb | hb
      · exact .inl hb
      · exact .inr (.inr (t2 _ (by omega) b hb))
  · rcases List.mem_append.1 hb with hb | hb
    · rcases List.mem_append.1 hb with hb | hb
      · exact .inr (.inr (d3 _ (by omega) b hb))
      · rcases List.mem_cons.1 hb with hb | hb
        · exact .inr (.inl hb)
        · exact .inr (.inr (t2 _ (by omega) b hb))
    · rcases List.mem_cons.1 hb with hb | hb
      · exact .inl hb
      · exact .inr (.inr (t2 _ (by omega) b hb))
theorem write_ne (n : Nat) : writeP n ≠ [] := by unfold writeP; split <;> simp
theorem rkTime_no {n : Int} (h1 : n ≤ 360000) {c : UInt8} (a : c ≠ 46) (b : c ≠ 58) (d : dig c = false) (e : c ≠ 45) : c ∉ rkTime n := by
  unfold rkTime
  split
  · intro h
    rcases write_bytes (by omega) c h with h | h | h
    · exact a h
    · exact b h
    · rw [h] at d; cases d
  · intro h; exact e (List.mem_singleton.1 h)
theorem rkTm_time {n : Int} (h0 : 0 ≤ n) (h1 : n ≤ 360000) : rkTm (rkTime n) = some n := by
  unfold rkTm rkTime
  by_cases h : 0 < n
  · have hp := write_parse (n := n.toNat) (by omega) (by omega)
    rw [if_pos h, if_neg, hp]
    · show (if (0 : Int) = 0 then some ((n.toNat : Nat) : Int) else none) = some n
      rw [if_pos rfl]; congr 1; omega
    · intro e
      have : (45 : UInt8) ∈ writeP n.toNat := by rw [e]; exact List.mem_cons_self ..
      rcases write_bytes (by omega) 45 this with h | h | h <;> revert h <;> decide
  · rw [if_neg h, if_pos rfl]; congr 1; omega
theorem rkTm_some {t : List UInt8} {v : Int} (h : rkTm t = some v) : rkTime v = t ∧ 0 ≤ v ∧ v ≤ 360000 := by
  unfold rkTm at h
  split at h
  · rename_i e
    obtain rfl := Option.some.inj h
    exact ⟨by rw [e]; rfl, by decide, by decide⟩
  · split at h
    · rename_i e
      obtain rfl := Option.some.inj h
      obtain ⟨p1, p2, p3⟩ := parse_write (l := t) (v := (parseP t).1) (Prod.ext rfl e)
      exact ⟨by unfold rkTime; rw [if_pos (by omega)]; exact p3, by omega, p2⟩
    · cases h
theorem rk_parse_line {x : Rk} (hk : keyB x.who = true) (h1 : x.rank.natAbs < 10 ^ 4) (h2 : x.fault.natAbs < 10 ^ 4) (h3 : 0 ≤ x.time) (h4 : x.time ≤ 360000) : rkParse (rkLine x) = some x ∧ (10 : UInt8) ∉ rkLine x := by
  obtain ⟨k1, _, _⟩ := key_bytes hk
  have ht : rkTime x.time ≠ [] := by unfold rkTime; split; exact write_ne _; simp
  constructor
  · unfold rkParse rkLine
    rw [spl_at 32 _ _ (itoa_no _ (by decide) (by decide)), spl_at 32 _ _ (key_no hk (by decide)), spl_at 32 _ _ (rkTime_no h4 (by decide) (by decide) (by decide) (by decide)), spl_no 32 _ (itoa_no _ (by decide) (by decide))]
    dsimp only
    rw [if_neg (by
      intro h
      rcases h with h | h | h | h
      · exact itoa_ne _ h
      · exact k1 h
      · exact ht h
      · exact itoa_ne _ h), show numsP [itoa x.rank, itoa x.fault] 4 = some [x.rank, x.fault] from numsP_iff.2 ⟨rfl, fun n hn => by
        rcases List.mem_cons.1 hn with rfl | hn
        · exact dd_le (by decide) h1
        · rw [List.mem_singleton.1 hn]; exact dd_le (by decide) h2⟩, rkTm_time h3 h4]
  · unfold rkLine
    intro h
    rcases List.mem_append.1 h with h | h
    · exact itoa_no _ (by decide) (by decide) h
    · rcases List.mem_cons.1 h with h | h
      · revert h; decide
      · rcases List.mem_append.1 h with h | h
        · exact key_no hk (by decide) h
        · rcases List.mem_cons.1 h with h | h
          · revert h; decide
          · rcases List.mem_append.1 h with h | h
            · exact rkTime_no h4 (by decide) (by decide) (by decide) (by decide) h
            · rcases List.mem_cons.1 h with h | h
              · revert h; decide
              · exact itoa_no _ (by decide) (by decide) h
theorem rk_line_parse (a : List UInt8) (x : Rk) (h : rkParse a = some x) : rkLine x = a := by
  unfold rkParse at h
  split at h
  · rename_i p q r s hs
    split at h
    · cases h
    · split at h
      · rename_i m n v hn hv
        obtain rfl := (Option.some.inj h : (⟨⟨q.toArray⟩, m, v, n⟩ : Rk) = x)
        obtain ⟨e1, _⟩ := numsP_iff.1 hn
        simp only [List.map_cons, List.map_nil, List.cons.injEq] at e1
        have ha := join_spl 32 a
        rw [hs, join_two, join_two, join_two, join_one] at ha
        unfold rkLine
        dsimp only
        rw [← e1.1, ← e1.2.1, (rkTm_some hv).1, ← ha]
        simp
      · cases h
  · cases h
theorem rk_read_text {l : List Rk} (h : ∀ x ∈ l, keyB x.who = true ∧ x.rank.natAbs < 10 ^ 4 ∧ x.fault.natAbs < 10 ^ 4 ∧ 0 ≤ x.time ∧ x.time ≤ 360000) : rkRd (rkText l) = (l.map rkLine, 0, true) ∧ rkRecs (rkText l) = l := by
  obtain ⟨h1, h2⟩ := lnR_recs rkParse rkLine id l (fun x hx => by
    obtain ⟨a, b, c, d, e⟩ := h x hx
    exact rk_parse_line a b c d e)
  have h3 : rkRd (rkText l) = (l.map rkLine, 0, true) := h1
  refine ⟨h3, ?_⟩
  unfold rkRecs
  rw [h3, h2, List.map_id]
theorem rk_text_read {t : List UInt8} (h : (rkRd t).2.2 = true) : rkText (rkRecs t) = t := recs_lnR rkParse rkLine rk_line_parse t h
end Go.Proofs.YtklggnglaeagpaaGreatDoor
