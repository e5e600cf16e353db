/- Ranks as text: the plain law. -/
import Derived.Test.YtamcmehmcbjgjaaGreatDoorTxtF
import Derived.Test.YtamcmehmcbjgjaaGreatDoorP23
namespace Go.Proofs.YtamcmehmcbjgjaaGreatDoor
open Go.Lib
set_option linter.unusedVariables false

def rkTime (n : Int) : List UInt8 := if 0 < n then writeP n.toNat else [45]
/-- a line of ranks, without its end -/
def rkLine (x : Rk) : List UInt8 := itoa x.rank ++ 32 :: (x.who.data.toList ++ 32 :: (rkTime x.time ++ 32 :: itoa x.fault))
def rkTm (t : List UInt8) : Option Int := if t = [45] then some 0 else if (parseP t).2 = 0 then some (parseP t).1 else none
def rkParse (a : List UInt8) : Option Rk := match spl 32 a with
  | [r, w, t, f] => if r = [] ∨ w = [] ∨ t = [] ∨ f = [] then none else (match numsP [r, f] 4, rkTm t with
    | some [m, n], some v => some ⟨⟨w.toArray⟩, m, v, n⟩
    | _, _ => none)
  | _ => none
def rkText (l : List Rk) : List UInt8 := l.flatMap fun x => rkLine x ++ [10]
def rkRd (t : List UInt8) : List (List UInt8) × Nat × Bool := lnR (fun a => (rkParse a).isSome) t
def rkRecs (t : List UInt8) : List Rk := (rkRd t).1.filterMap rkParse
theorem u8_small : ∀ n : Nat, n < 10 → dig (UInt8.ofNat (48 + n)) = true := dg_dig
theorem write_bytes {n : Nat} (h : n ≤ 360000) : ∀ b ∈ writeP n, b = 46 ∨ b = 58 ∨ dig b = true := by
  have d2 : ∀ m : Nat, m < 100 → (digP m).all dig = true := digP_more
  have t2 : ∀ m : Nat, m < 100 → ∀ b ∈ twoP m, dig b = true := fun m hm b hb => by
    unfold twoP at hb
    rcases List.mem_cons.1 hb with rfl | hb
    · exact dg_dig _ (by omega)
    · rw [List.mem_singleton.1 hb]; exact dg_dig _ (by omega)
  have d3 : ∀ m : Nat, m < 100 → ∀ b ∈ digP m, dig b = true := fun m hm b hb => List.all_eq_true.1 (d2 m hm) b hb
  intro b hb
  unfold writeP at hb
  split at hb
  · rcases List.mem_append.1 hb with hb | hb
    · exact .inr (.inr (d3 _ (by omega) b hb))
    · rcases List.mem_cons.1 hb with hb | hb
      · exact .inl hb
      · exact .inr (.inr (t2 _ (by omega) b hb))
  · rcases List.mem_append.1 hb with hb | hb
    · rcases List.mem_append.1 hb with hb | hb
      · exact .inr (.inr (d3 _ (by omega) b hb))
      · rcases List.mem_cons.1 hb with hb | hb
        · exact .inr (.inl hb)
        · exact .inr (.inr (t2 _ (by omega) b hb))
    · rcases List.mem_cons.1 hb with hb | hb
      · exact .inl hb
      · exact .inr (.inr (t2 _ (by omega) b hb))
theorem write_ne (n : Nat) : writeP n ≠ [] := by unfold writeP; split <;> simp
theorem rkTime_no {n : Int} (h1 : n ≤ 360000) {c : UInt8} (a : c ≠ 46) (b : c ≠ 58) (d : dig c = false) (e : c ≠ 45) : c ∉ rkTime n := by
  unfold rkTime
  split
  · intro h
    rcases write_bytes (by omega) c h with h | h | h
    · exact a h
    · exact b h
    · rw [h] at d; cases d
  · intro h; exact e (List.mem_singleton.1 h)
theorem rkTm_time {n : Int} (h0 : 0 ≤ n) (h1 : n ≤ 360000) : rkTm (rkTime n) = some n := by
  unfold rkTm rkTime
  by_cases h : 0 < n
  · have hp := write_parse (n := n.toNat) (by omega) (by omega)
    rw [if_pos h, if_neg, hp]
    · show (if (0 : Int) = 0 then some ((n.toNat : Nat) : Int) else none) = some n
      rw [if_pos rfl]; congr 1; omega
    · intro e
      have : (45 : UInt8) ∈ writeP n.toNat := by rw [e]; exact List.mem_cons_self ..
      rcases write_bytes (by omega) 45 this with h | h | h <;> revert h <;> decide
  · rw [if_neg h, if_pos rfl]; congr 1; omega
theorem rkTm_some {t : List UInt8} {v : Int} (h : rkTm t = some v) : rkTime v = t ∧ 0 ≤ v ∧ v ≤ 360000 := by
  unfold rkTm at h
  split at h
  · rename_i e
    obtain rfl := Option.some.inj h
    exact ⟨by rw [e]; rfl, by decide, by decide⟩
  · split at h
    · rename_i e
      obtain rfl := Option.some.inj h
      obtain ⟨p1, p2, p3⟩ := parse_write (l := t) (v := (parseP t).1) (Prod.ext rfl e)
      exact ⟨by unfold rkTime; rw [if_pos (by omega)]; exact p3, by omega, p2⟩
    · cases h
theorem rk_parse_line {x : Rk} (hk : keyB x.who = true) (h1 : x.rank.natAbs < 10 ^ 4) (h2 : x.fault.natAbs < 10 ^ 4) (h3 : 0 ≤ x.time) (h4 : x.time ≤ 360000) : rkParse (rkLine x) = some x ∧ (10 : UInt8) ∉ rkLine x := by
  obtain ⟨k1, _, _⟩ := key_bytes hk
  have ht : rkTime x.time ≠ [] := by unfold rkTime; split; exact write_ne _; simp
  constructor
  · unfold rkParse rkLine
    rw [spl_at 32 _ _ (itoa_no _ (by decide) (by decide)), spl_at 32 _ _ (key_no hk (by decide)), spl_at 32 _ _ (rkTime_no h4 (by decide) (by decide) (by decide) (by decide)), spl_no 32 _ (itoa_no _ (by decide) (by decide))]
    dsimp only
    rw [if_neg (by
      intro h
      rcases h with h | h | h | h
      · exact itoa_ne _ h
      · exact k1 h
      · exact ht h
      · exact itoa_ne _ h), show numsP [itoa x.rank, itoa x.fault] 4 = some [x.rank, x.fault] from numsP_iff.2 ⟨rfl, fun n hn => by
        rcases List.mem_cons.1 hn with rfl | hn
        · exact dd_le (by decide) h1
        · rw [List.mem_singleton.1 hn]; exact dd_le (by decide) h2⟩, rkTm_time h3 h4]
  · unfold rkLine
    intro h
    rcases List.mem_append.1 h with h | h
    · exact itoa_no _ (by decide) (by decide) h
    · rcases List.mem_cons.1 h with h | h
      · revert h; decide
      · rcases List.mem_append.1 h with h | h
        · exact key_no hk (by decide) h
        · rcases List.mem_cons.1 h with h | h
          · revert h; decide
          · rcases List.mem_append.1 h with h | h
            · exact rkTime_no h4 (by decide) (by decide) (by decide) (by decide) h
            · rcases List.mem_cons.1 h with h | h
              · revert h; decide
              · exact itoa_no _ (by decide) (by decide) h
theorem rk_line_parse (a : List UInt8) (x : Rk) (h : rkParse a = some x) : rkLine x = a := by
  unfold rkParse at h
  split at h
  · rename_i p q r s hs
    split at h
    · cases h
    · split at h
      · rename_i m n v hn hv
        obtain rfl := (Option.some.inj h : (⟨⟨q.toArray⟩, m, v, n⟩ : Rk) = x)
        obtain ⟨e1, _⟩ := numsP_iff.1 hn
        simp only [List.map_cons, List.map_nil, List.cons.injEq] at e1
        have ha := join_spl 32 a
        rw [hs, join_two, join_two, join_two, join_one] at ha
        unfold rkLine
        dsimp only
        rw [← e1.1, ← e1.2.1, (rkTm_some hv).1, ← ha]
        simp
      · cases h
  · cases h
theorem rk_read_text {l : List Rk} (h : ∀ x ∈ l, keyB x.who = true ∧ x.rank.natAbs < 10 ^ 4 ∧ x.fault.natAbs < 10 ^ 4 ∧ 0 ≤ x.time ∧ x.time ≤ 360000) : rkRd (rkText l) = (l.map rkLine, 0, true) ∧ rkRecs (rkText l) = l := by
  obtain ⟨h1, h2⟩ := lnR_recs rkParse rkLine id l (fun x hx => by
    obtain ⟨a, b, c, d, e⟩ := h x hx
    exact rk_parse_line a b c d e)
  have h3 : rkRd (rkText l) = (l.map rkLine, 0, true) := h1
  refine ⟨h3, ?_⟩
  unfold rkRecs
  rw [h3, h2, List.map_id]
theorem rk_text_read {t : List UInt8} (h : (rkRd t).2.2 = true) : rkText (rkRecs t) = t := recs_lnR rkParse rkLine rk_line_parse t h
end Go.Proofs.YtamcmehmcbjgjaaGreatDoor
