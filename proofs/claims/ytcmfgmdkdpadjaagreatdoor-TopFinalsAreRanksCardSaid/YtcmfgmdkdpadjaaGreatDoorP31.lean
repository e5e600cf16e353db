/- TopFinalsAreRanks: the plain laws. -/
import Derived.Test.YtcmfgmdkdpadjaaGreatDoorFinT
import Derived.Test.YtcmfgmdkdpadjaaGreatDoorP37
import Derived.Test.YtcmfgmdkdpadjaaGreatDoorRankW
namespace Go.Proofs.YtcmfgmdkdpadjaaGreatDoor
open Go.RowKit Go.Sort Go.Shelf
set_option linter.unusedVariables false

/-! ### ranks are places -/
theorem rkSorted_fin (l : List Sd) (ht : ∀ x ∈ l, 0 ≤ x.time) : rkSorted 1 (goodL (faultV []) l) = (finL l).map (rkOf (faultV [])) := by
  have e0 : l.filter (isGood (faultV [])) = l.filter fun y => decide (y.time ≠ 0) := by
    apply List.filter_congr
    intro x hx
    unfold isGood
    have h1 := ht x hx
    have h2 : faultV [] x.who = 0 := rfl
    rw [h2]
    by_cases h : x.time = 0
    · simp [h]
    · simp [h]; omega
  unfold rkSorted goodL
  rw [e0, insL_map (fun x y => ltOf (rkCf 1) (rkOf (faultV []) x) (rkOf (faultV []) y)) (ltOf (rkCf 1)) (rkOf (faultV [])) (fun _ _ => rfl), ← finL_ref]
  congr 1
  refine insL_congr (fun x : Sd => 0 < x.time) (fun x y hx hy => ?_) (fun x hx => ?_)
  · have e : ltOf (rkCf 1) (rkOf (faultV []) x) (rkOf (faultV []) y) = decide (x.time / 1 - y.time / 1 < 0) := rfl
    rw [e, Int.ediv_one, Int.ediv_one]
    cases hc : ltOf sdCf x y with
    | true => rw [sdLt_iff] at hc; exact decide_eq_true (by omega)
    | false => rw [sdLt_no] at hc; exact decide_eq_false (by omega)
  · obtain ⟨h1, h2⟩ := List.mem_filter.1 hx
    have := ht x h1
    have h3 := of_decide_eq_true h2
    omega
theorem faster_at {L : List Sd} (hs : L.Pairwise fun x y => x.time ≤ y.time) {k : Nat} {x : Sd} (hx : L[k]? = some x) (hp : k = 0 ∨ ∃ y, L[k - 1]? = some y ∧ y.time < x.time) : fasterN x.time L = k := by
  have hk := lt_of_at hx
  have hle : ∀ (i j : Nat) (a b : Sd), i ≤ j → L[i]? = some a → L[j]? = some b → a.time ≤ b.time := fun i j a b hij ha hb => by
    rcases Nat.lt_or_ge i j with h | h
    · have hp := List.pairwise_iff_getElem.1 hs i j (List.getElem?_eq_some_iff.1 ha).1 (List.getElem?_eq_some_iff.1 hb).1 h
      rw [(List.getElem?_eq_some_iff.1 ha).2, (List.getElem?_eq_some_iff.1 hb).2] at hp
      exact hp
    · obtain rfl : i = j := by omega
      rw [ha] at hb; rw [Option.some.inj hb]; exact Int.le_refl _
  have e : L = L.take k ++ L.drop k := (List.take_append_drop k L).symm
  have h1 : (L.take k).filter (fun y => decide (y.time < x.time)) = L.take k := by
    rw [List.filter_eq_self]
    intro z hz
    obtain ⟨i, hi⟩ := List.getElem?_of_mem hz
    rw [List.getElem?_take] at hi
    split at hi
    · rename_i hik
      rcases hp with h0 | ⟨y, hy, hyx⟩
      · omega
      · have := hle i (k - 1) z y (by omega) hi hy
        exact decide_eq_true (by omega)
    · cases hi
  have h2 : (L.drop k).filter (fun y => decide (y.time < x.time)) = [] := by
    rw [List.filter_eq_nil_iff]
    intro z hz
    obtain ⟨i, hi⟩ := List.getElem?_of_mem hz
    rw [List.getElem?_drop] at hi
    have := hle k (k + i) x z (by omega) hx hi
    simp; omega
  unfold fasterN
  conv => lhs; rw [e]
  rw [List.filter_append, h1, h2, List.append_nil, List.length_take]
  omega
theorem rnkF_fast {L : List Sd} (hs : L.Pairwise fun x y => x.time ≤ y.time) : ∀ (k : Nat) (x : Sd), L[k]? = some x → (rnkF 1 (L.map (rkOf (faultV []))) ((0 : Nat) : Int) none)[k]? = some ⟨x.who, rnkS L x.time, x.time, 0⟩
  | 0, x, hx => by
    obtain ⟨q, h1, h2⟩ := rnkF_at (d := 1) (L.map (rkOf (faultV []))) 0 none 0 (rkOf (faultV []) x) (by rw [List.getElem?_map, hx]; rfl)
    rw [h1, h2]
    have h3 : rnkS L x.time = 1 := by unfold rnkS; rw [faster_at hs hx (.inl rfl)]; rfl
    rw [h3]
    rfl
  | k + 1, x, hx => by
    obtain ⟨q, h1, h2⟩ := rnkF_at (d := 1) (L.map (rkOf (faultV []))) 0 none (k + 1) (rkOf (faultV []) x) (by rw [List.getElem?_map, hx]; rfl)
    obtain ⟨y, hy⟩ := at_of_lt (l := L) (k := k) (by have := lt_of_at hx; omega)
    have ih := rnkF_fast hs k y hy
    have hyx := List.pairwise_iff_getElem.1 hs k (k + 1) (List.getElem?_eq_some_iff.1 hy).1 (List.getElem?_eq_some_iff.1 hx).1 (by omega)
    rw [(List.getElem?_eq_some_iff.1 hy).2, (List.getElem?_eq_some_iff.1 hx).2] at hyx
    rw [h1, h2, if_neg (by omega)]
    unfold prevR
    rw [if_neg (by omega), Nat.add_sub_cancel, ih]
    show some (⟨x.who, (if x.time / 1 = y.time / 1 then rnkS L y.time else ((0 + (k + 1) : Nat) : Int) + 1), x.time, 0⟩ : Rk) = some ⟨x.who, rnkS L x.time, x.time, 0⟩
    rw [Int.ediv_one, Int.ediv_one]
    by_cases he : x.time = y.time
    · rw [if_pos he, he]
    · rw [if_neg he]
      have h3 : rnkS L x.time = 1 + ((k + 1 : Nat) : Int) := by unfold rnkS; rw [faster_at hs hx (.inr ⟨y, by rw [Nat.add_sub_cancel]; exact hy, by omega⟩)]
      rw [h3]
      congr 2
      push_cast
      omega
theorem ranks_places {f : Fl} (hf : FlOk f) {l : List Sd} (ht : ∀ x ∈ l, 0 ≤ x.time) {i : Nat} {y : Pc} (hy : (plcV f l)[i]? = some y) : ∃ r, (rankL 1 (faultV []) l)[i]? = some r ∧ r.who = y.who ∧ r.rank = y.rk := by
  obtain ⟨x, hx, rfl, _⟩ := plc_get hf (finL l) (finL l) 0 i y hy
  have h := rnkF_fast (finL_sorted l) i x hx
  refine ⟨⟨x.who, rnkS (finL l) x.time, x.time, 0⟩, ?_, rfl, rfl⟩
  unfold rankL
  rw [rkSorted_fin l ht, List.getElem?_append_left (by rw [rnkF_len, List.length_map]; exact lt_of_at hx)]
  exact h

/-! ### the starts of finals -/
theorem stIn_mem {LV : List Int} {h : Int} : ∀ {l : List ByteArray} {j : Nat} {s : Sp}, s ∈ stIn LV h j l → ∃ i, s.heat = h ∧ l[i]? = some s.who ∧ s.lane = LV.getD (j + i) 0
  | [], _, _, hs => by simp [stIn] at hs
  | a :: r, j, s, hs => by
    unfold stIn at hs
    rcases List.mem_cons.1 hs with rfl | hs
    · exact ⟨0, rfl, rfl, rfl⟩
    · obtain ⟨i, h1, h2, h3⟩ := stIn_mem hs
      exact ⟨i + 1, h1, h2, by rw [h3]; congr 1; omega⟩
theorem stOut_mem {LV : List Int} : ∀ {H : List (List ByteArray)} {i : Nat} {s : Sp}, s ∈ stOut LV i H → ∃ k l, H[k]? = some l ∧ s ∈ stIn LV (((i + k : Nat) : Int) + 1) 0 l
  | [], _, _, hs => by simp [stOut] at hs
  | l :: r, i, s, hs => by
    unfold stOut at hs
    rcases List.mem_append.1 hs with hs | hs
    · exact ⟨0, l, rfl, hs⟩
    · obtain ⟨k, l', h1, h2⟩ := stOut_mem hs
      exact ⟨k + 1, l', h1, by rw [show i + (k + 1) = i + 1 + k by omega]; exact h2⟩
theorem stOut_has {LV : List Int} : ∀ {H : List (List ByteArray)} {i k : Nat} {l : List ByteArray}, H[k]? = some l → l ≠ [] → ∃ s ∈ stOut LV i H, s.heat = ((i + k : Nat) : Int) + 1
  | [], _, _, _, h, _ => by simp at h
  | l' :: r, i, 0, l, h, hne => by
    have h' : some l' = some l := h
    injection h' with h'
    subst h'
    cases l' with
    | nil => exact absurd rfl hne
    | cons a t => exact ⟨⟨a, (i : Int) + 1, LV.getD 0 0⟩, by unfold stOut stIn; simp, rfl⟩
  | l' :: r, i, k + 1, l, h, hne => by
    obtain ⟨s, h1, h2⟩ := stOut_has (LV := LV) (i := i + 1) (show r[k]? = some l from h) hne
    exact ⟨s, by unfold stOut; exact List.mem_append_right _ h1, by rw [h2]; congr 2; omega⟩
theorem stIn_who (LV : List Int) (h : Int) : ∀ (l : List ByteArray) (j : Nat), (stIn LV h j l).map Sp.who = l
  | [], _ => rfl
  | a :: r, j => by unfold stIn; rw [List.map_cons, stIn_who LV h r]
theorem stOut_who (LV : List Int) : ∀ (H : List (List ByteArray)) (i : Nat), (stOut LV i H).map Sp.who = H.flatten
  | [], _ => rfl
  | l :: r, i => by unfold stOut; rw [List.map_append, stIn_who, stOut_who LV r, List.flatten_cons]
theorem stIn_pair {LV : List Int} (hn : LV.Nodup) {h : Int} : ∀ (l : List ByteArray) (j : Nat), j + l.length ≤ LV.length → (stIn LV h j l).Pairwise fun x y => x.lane ≠ y.lane
  | [], _, _ => List.Pairwise.nil
  | a :: r, j, hl => by
    rw [List.length_cons] at hl
    unfold stIn
    refine List.pairwise_cons.2 ⟨fun s hs => ?_, stIn_pair hn r (j + 1) (by omega)⟩
    obtain ⟨i, _, h2, h3⟩ := stIn_mem hs
    have hi := lt_of_at h2
    rw [h3]
    show LV.getD j 0 ≠ LV.getD (j + 1 + i) 0
    rw [List.getD_eq_getElem?_getD, List.getD_eq_getElem?_getD, List.getElem?_eq_getElem (by omega), List.getElem?_eq_getElem (by omega)]
    exact List.pairwise_iff_getElem.1 hn j (j + 1 + i) (by omega) (by omega) (by omega)
theorem stOut_pair {LV : List Int} (hn : LV.Nodup) : ∀ (H : List (List ByteArray)) (i : Nat), (∀ l ∈ H, l.length ≤ LV.length) → (stOut LV i H).Pairwise fun x y => ¬ (x.heat = y.heat ∧ x.lane = y.lane)
  | [], _, _ => List.Pairwise.nil
  | l :: r, i, hl => by
    unfold stOut
    refine List.pairwise_append.2 ⟨(stIn_pair hn l 0 (by have := hl l (by simp); omega)).imp fun h hc => h hc.2, stOut_pair hn r (i + 1) (fun x hx => hl x (by simp [hx])), fun x hx y hy hc => ?_⟩
    obtain ⟨_, h1, _, _⟩ := stIn_mem hx
    obtain ⟨k, l', _, h3⟩ := stOut_mem hy
    obtain ⟨_, h4, _, _⟩ := stIn_mem h3
    have := hc.1
    rw [h1, h4] at this
    push_cast at this
    omega
theorem startsGo_ok {p : Pl} : ∀ (D : List Sp) (seen : List ByteArray) (last : Int) (prev : Option Sp), (D.map Sp.who).Nodup → (∀ x ∈ D, x.who ∉ seen) → (∀ x ∈ D, keyB x.who = true ∧ (1 ≤ x.heat ∧ x.heat ≤ 60) ∧ (p.lo ≤ x.lane ∧ x.lane ≤ p.hi)) →
    D.Pairwise (fun x y => spCf x y < 0) → (∀ y, prev = some y → ∀ x ∈ D, spCf y x < 0) → (∀ x ∈ D, last ≤ x.heat) → (∀ x ∈ D, ∀ h, last < h → h < x.heat → ∃ z ∈ D, z.heat = h) → startsGo p seen false false last prev D = 0
  | [], _, _, _, _, _, _, _, _, _, _ => rfl
  | x :: r, seen, last, prev, hnd, hns, hok, hpw, hpv, hla, hgp => by
    rw [List.map_cons, List.nodup_cons] at hnd
    obtain ⟨hp1, hp2⟩ := List.pairwise_cons.1 hpw
    obtain ⟨k1, k2, k3⟩ := hok x (by simp)
    have hse : stErr p prev x = 0 := by
      unfold stErr
      rw [if_neg (by simp [k1]), if_neg (fun h => h ⟨k2, k3⟩)]
      cases hpr : prev with
      | none => rfl
      | some y => exact if_neg (by have := hpv y hpr x (by simp); omega)
    have hle : ∀ z ∈ r, x.heat ≤ z.heat := fun z hz => by
      have h1 := hp1 z hz
      have h2 : ltOf spCf x z = true := decide_eq_true h1
      rw [spLt_iff] at h2
      omega
    have hgap : decide (last + 1 < x.heat) = false := by
      refine decide_eq_false fun h => ?_
      obtain ⟨z, hz, hzh⟩ := hgp x (by simp) (last + 1) (by omega) h
      rcases List.mem_cons.1 hz with rfl | hz
      · omega
      · have := hle z hz; omega
    have hsn : seenB x.who seen = false := seenB_no (hns x (by simp))
    show (if stErr p prev x ≠ 0 then stErr p prev x else startsGo p (x.who :: seen) (false || seenB x.who seen) (false || decide (last + 1 < x.heat)) x.heat (some x) r) = 0
    rw [hse, if_neg (by simp), hsn, hgap]
    refine startsGo_ok r (x.who :: seen) x.heat (some x) hnd.2 (fun z hz hc => ?_) (fun z hz => hok z (by simp [hz])) hp2 (fun y hy z hz => ?_) hle (fun z hz h h1 h2 => ?_)
    · rcases List.mem_cons.1 hc with hc | hc
      · exact hnd.1 (hc ▸ List.mem_map_of_mem hz)
      · exact hns z (by simp [hz]) hc
    · injection hy with hy
      subst hy
      exact hp1 z hz
    · obtain ⟨u, hu, huh⟩ := hgp z (by simp [hz]) h (by have := hla x (by simp); omega) h2
      rcases List.mem_cons.1 hu with rfl | hu
      · omega
      · exact ⟨u, hu, huh⟩
theorem heats_flat (P : List Pc) : ∀ (k : Nat) (s : ByteArray), s ∈ (heatsV P k).flatten → ∃ y ∈ P, y.who = s ∧ 1 ≤ y.fin ∧ y.fin ≤ k := by
  intro k s hs
  obtain ⟨l, hl, hsl⟩ := List.mem_flatten.1 hs
  obtain ⟨v, h1, h2, rfl, _⟩ := heatsV_mem P k l hl
  unfold nmF at hsl
  obtain ⟨y, hy, rfl⟩ := List.mem_map.1 hsl
  obtain ⟨hy1, hy2⟩ := List.mem_filter.1 hy
  have := of_decide_eq_true hy2
  exact ⟨y, hy1, rfl, by omega, by omega⟩
theorem who_inj {P : List Pc} (hn : (P.map Pc.who).Nodup) {x y : Pc} (hx : x ∈ P) (hy : y ∈ P) (h : x.who = y.who) : x = y := by
  induction P with
  | nil => cases hx
  | cons a r ih =>
    rw [List.map_cons, List.nodup_cons] at hn
    rcases List.mem_cons.1 hx with e1 | h1 <;> rcases List.mem_cons.1 hy with e2 | h2
    · rw [e1, e2]
    · refine absurd ?_ hn.1
      rw [← e1, h]
      exact List.mem_map_of_mem h2
    · refine absurd ?_ hn.1
      rw [← e2, ← h]
      exact List.mem_map_of_mem h1
    · exact ih hn.2 h1 h2
theorem heats_nodup {P : List Pc} (hn : (P.map Pc.who).Nodup) : ∀ k : Nat, (heatsV P k).flatten.Nodup
  | 0 => List.nodup_nil
  | k + 1 => by
    have ih := heats_nodup hn k
    rw [show heatsV P (k + 1) = (if nmF P ((k : Int) + 1) = [] then [] else [nmF P ((k : Int) + 1)]) ++ heatsV P k from rfl]
    split
    · exact ih
    · show (nmF P ((k : Int) + 1) ++ (heatsV P k).flatten).Nodup
      refine List.nodup_append.2 ⟨hn.sublist ((List.filter_sublist).map _), ih, fun a ha b hb hab => ?_⟩
      subst hab
      unfold nmF at ha
      obtain ⟨y, hy, rfl⟩ := List.mem_map.1 ha
      obtain ⟨hy1, hy2⟩ := List.mem_filter.1 hy
      obtain ⟨z, hz, hzw, _, hz2⟩ := heats_flat P k _ hb
      have := who_inj hn hz hy1 hzw
      subst this
      have := of_decide_eq_true hy2
      omega
theorem heats_count (P : List Pc) : ∀ k : Nat, (heatsV P k).flatten.length = (P.filter fun y => decide (1 ≤ y.fin ∧ y.fin ≤ (k : Int))).length
  | 0 => by
    rw [List.filter_eq_nil_iff.2 (fun y hy => by simp; omega)]
    rfl
  | k + 1 => by
    have ih := heats_count P k
    have e1 : (heatsV P (k + 1)).flatten.length = (nmF P ((k : Int) + 1)).length + (heatsV P k).flatten.length := by
      rw [show heatsV P (k + 1) = (if nmF P ((k : Int) + 1) = [] then [] else [nmF P ((k : Int) + 1)]) ++ heatsV P k from rfl]
      split
      · rename_i h; rw [h]; simp
      · show (nmF P ((k : Int) + 1) ++ (heatsV P k).flatten).length = _
        rw [List.length_append]
    rw [e1, ih]
    unfold nmF
    rw [List.length_map]
    clear e1 ih
    induction P with
    | nil => rfl
    | cons y r ihP =>
      rw [List.filter_cons, List.filter_cons, List.filter_cons]
      by_cases h1 : y.fin = (k : Int) + 1
      · rw [if_pos (by simpa using h1), if_neg (by simp; omega), if_pos (by simp; omega), List.length_cons, List.length_cons]
        omega
      · by_cases h2 : 1 ≤ y.fin ∧ y.fin ≤ (k : Int)
        · rw [if_neg (by simpa using h1), if_pos (by simpa using h2), if_pos (by simp; omega), List.length_cons, List.length_cons]
          omega
        · rw [if_neg (by simpa using h1), if_neg (by simpa using h2), if_neg (by simp; omega)]
          exact ihP
theorem heats_len (P : List Pc) : ∀ k : Nat, (heatsV P k).length ≤ k
  | 0 => Nat.le_refl _
  | k + 1 => by
    have ih := heats_len P k
    rw [show heatsV P (k + 1) = (if nmF P ((k : Int) + 1) = [] then [] else [nmF P ((k : Int) + 1)]) ++ heatsV P k from rfl, List.length_append]
    split <;> simp <;> omega
theorem lanes_ok : ∀ lo hi : Fin 11, 1 ≤ lo.val → lo.val ≤ hi.val → (laneV lo.val hi.val).Nodup ∧ ∀ x ∈ laneV lo.val hi.val, (lo.val : Int) ≤ x ∧ x ≤ hi.val := by decide +kernel
theorem finalStarts_ok {p : Pl} (hp : PlOk p) {f : Fl} (hf : FlOk f) {P : List Pc} (hok : PlsOk f P) (hfull : f.sz ≤ p.hi - p.lo + 1) {D : List Sp} (hD : SpSorted (stOut (laneV p.lo p.hi) 0 (heatsV P f.mn.toNat)) D) :
    startsErr p D = 0 ∧ D.length = (P.filter fun y => decide (0 < y.fin)).length := by
  obtain ⟨⟨p0, p1⟩, p2, _⟩ := hp
  obtain ⟨hD1, hD2⟩ := hD
  have hlv := laneV_len p1
  obtain ⟨hln, hlb⟩ : (laneV p.lo p.hi).Nodup ∧ ∀ x ∈ laneV p.lo p.hi, p.lo ≤ x ∧ x ≤ p.hi := by
    have h := lanes_ok ⟨p.lo.toNat, by omega⟩ ⟨p.hi.toNat, by omega⟩ (by show 1 ≤ p.lo.toNat; omega) (by show p.lo.toNat ≤ p.hi.toNat; omega)
    dsimp only at h
    rw [show ((p.lo.toNat : Nat) : Int) = p.lo by omega, show ((p.hi.toNat : Nat) : Int) = p.hi by omega] at h
    exact h
  have hm : f.mn.toNat ≤ 5 := by have := hf.2.1; omega
  have hHl : ∀ l ∈ heatsV P f.mn.toNat, l.length ≤ (laneV p.lo p.hi).length := fun l hl => by
    obtain ⟨v, h1, h2, h3, _⟩ := heatsV_mem P _ l hl
    have := nmF_len hf hok h1
    rw [← h3] at this
    omega
  have hHn := heats_len P f.mn.toNat
  have hcnt := heats_count P f.mn.toNat
  have hnod := heats_nodup hok.nod f.mn.toNat
  have hfl := heats_flat P f.mn.toNat
  have hmem := heatsV_mem P f.mn.toNat
  generalize heatsV P f.mn.toNat = HH at *
  have hpair := stOut_pair hln HH 0 hHl
  have hwho := stOut_who (laneV p.lo p.hi) HH 0
  have hlen : (stOut (laneV p.lo p.hi) 0 HH).length = HH.flatten.length := by rw [← hwho, List.length_map]
  have hT : ∀ s ∈ stOut (laneV p.lo p.hi) 0 HH, keyB s.who = true ∧ (1 ≤ s.heat ∧ s.heat ≤ (HH.length : Int)) ∧ (p.lo ≤ s.lane ∧ s.lane ≤ p.hi) := fun s hs => by
    obtain ⟨k, l, h1, h2⟩ := stOut_mem hs
    obtain ⟨i, h3, h4, h5⟩ := stIn_mem h2
    have hk := lt_of_at h1
    have hi := lt_of_at h4
    have hlm := hHl l (List.mem_of_getElem? h1)
    refine ⟨?_, by rw [h3]; push_cast; omega, ?_⟩
    · obtain ⟨y, hy, hyw, _⟩ := hfl s.who (List.mem_flatten.2 ⟨l, List.mem_of_getElem? h1, List.mem_of_getElem? h4⟩)
      rw [← hyw]
      exact (hok.key y hy).1
    · rw [h5, Nat.zero_add, List.getD_eq_getElem?_getD, List.getElem?_eq_getElem (by omega)]
      exact hlb _ (List.getElem_mem _)
  have hDl : D.length = HH.flatten.length := by rw [hD1.length_eq, hlen]
  have hfin : (P.filter fun y => decide (1 ≤ y.fin ∧ y.fin ≤ ((f.mn.toNat : Nat) : Int))).length = (P.filter fun y => decide (0 < y.fin)).length := by
    congr 1
    apply List.filter_congr
    intro y hy
    have h1 := (hok.key y hy).2.1
    have h2 := hf.2.1
    by_cases h : 0 < y.fin
    · rw [decide_eq_true h, decide_eq_true (by omega)]
    · rw [decide_eq_false h, decide_eq_false (by omega)]
  refine ⟨?_, by rw [hDl, hcnt, hfin]⟩
  have hPl := hok.big
  have hDlen : D.length ≤ 300 := by
    rw [hDl, hcnt]
    have := List.length_filter_le (fun y : Pc => decide (1 ≤ y.fin ∧ y.fin ≤ ((f.mn.toNat : Nat) : Int))) P
    omega
  unfold startsErr
  rw [show poolErr p = 0 from if_pos ⟨⟨p0, p1⟩, p2, ‹_›⟩, if_neg (by simp), if_neg (by omega)]
  have hDT : ∀ s ∈ D, s ∈ stOut (laneV p.lo p.hi) 0 HH := fun s hs => hD1.mem_iff.1 hs
  have hDp : D.Pairwise fun x y => ¬ (x.heat = y.heat ∧ x.lane = y.lane) := hD1.symm.pairwise hpair (fun {x y} h hc => h ⟨hc.1.symm, hc.2.symm⟩)
  refine startsGo_ok D [] 0 none ?_ (fun x _ hc => by cases hc) (fun x hx => ?_) ?_ (fun y hy => by cases hy) (fun x hx => by have := (hT x (hDT x hx)).2.1; omega) (fun x hx h h1 h2 => ?_)
  · have h9 : (D.map Sp.who).Perm HH.flatten := by rw [← hwho]; exact hD1.map _
    exact h9.nodup_iff.2 hnod
  · obtain ⟨k1, k2, k3⟩ := hT x (hDT x hx)
    exact ⟨k1, by omega, k3⟩
  · refine (hD2.and hDp).imp fun {x y} ⟨h1, h2⟩ => ?_
    rw [spLt_no] at h1
    have h3 : ltOf spCf x y = true := by rw [spLt_iff]; omega
    exact of_decide_eq_true h3
  · have hx2 := (hT x (hDT x hx)).2.1
    obtain ⟨l, hl⟩ := at_of_lt (l := HH) (k := (h - 1).toNat) (by omega)
    obtain ⟨v, _, _, _, hne⟩ := hmem l (List.mem_of_getElem? hl)
    obtain ⟨s, hs, hsh⟩ := stOut_has (LV := laneV p.lo p.hi) (i := 0) hl hne
    refine ⟨s, hD1.mem_iff.2 hs, ?_⟩
    rw [hsh, Nat.zero_add]
    omega
end Go.Proofs.YtcmfgmdkdpadjaaGreatDoor
