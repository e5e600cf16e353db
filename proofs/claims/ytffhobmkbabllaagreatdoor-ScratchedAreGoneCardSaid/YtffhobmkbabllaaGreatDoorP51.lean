/- PLAIN: right starts told as a property; who is taken out is gone; a lane that is given is no longer empty. -/
import Derived.Test.YtffhobmkbabllaaGreatDoorLatM
import Derived.Test.YtffhobmkbabllaaGreatDoorScrP
namespace Go.Proofs.YtffhobmkbabllaaGreatDoor
open Go.RowKit Go.Shelf Go.Lib Go.Sort
set_option linter.unusedVariables false

def stAll (p : Pl) (x : Sp) : Prop := keyB x.who = true ∧ (1 ≤ x.heat ∧ x.heat ≤ 60) ∧ (p.lo ≤ x.lane ∧ x.lane ≤ p.hi)
theorem stErr_iff (p : Pl) (o : Option Sp) (x : Sp) : stErr p o x = 0 ↔ stAll p x ∧ ∀ y, o = some y → spB y x := by
  constructor
  · intro h
    refine ⟨stErr_ok h, fun y hy => ?_⟩
    subst hy
    exact stErr_lt h
  · intro ⟨⟨h1, h2, h3⟩, h4⟩
    unfold stErr
    rw [if_neg (by rw [h1]; simp), if_neg (not_not_intro ⟨h2, h3⟩)]
    cases o with
    | none => rfl
    | some y =>
      have h5 : decide (spCf y x < 0) = true := (spLtF_iff y x).2 (h4 y rfl)
      have h6 := of_decide_eq_true h5
      dsimp only
      rw [if_neg (by omega)]
def ChainH : Int → List Sp → Prop
  | _, [] => True
  | last, x :: r => x.heat ≤ last + 1 ∧ ChainH x.heat r
theorem seenB_iff (s : ByteArray) (seen : List ByteArray) : seenB s seen = true ↔ s ∈ seen := by
  unfold seenB
  rw [List.any_eq_true]
  constructor
  · rintro ⟨x, h1, h2⟩
    rw [← of_decide_eq_true h2]; exact h1
  · intro h; exact ⟨s, h, decide_eq_true rfl⟩
theorem startsGo_iff (p : Pl) : ∀ (l : List Sp) (seen : List ByteArray) (tw gap : Bool) (last : Int) (prev : Option Sp), startsGo p seen tw gap last prev l = 0 ↔ tw = false ∧ gap = false ∧ (∀ x ∈ l, stAll p x) ∧ l.Pairwise spB ∧ (∀ y, prev = some y → ∀ x ∈ l, spB y x) ∧ (l.map Sp.who).Nodup ∧ (∀ x ∈ l, x.who ∉ seen) ∧ ChainH last l
  | [], seen, tw, gap, last, prev => by
    rw [startsGo]
    cases tw <;> cases gap <;> simp [ChainH]
  | x :: l, seen, tw, gap, last, prev => by
    rw [startsGo]
    by_cases h : stErr p prev x = 0
    · rw [if_neg (not_not_intro h), startsGo_iff p l]
      have h2 := (stErr_iff p prev x).1 h
      constructor
      · rintro ⟨a1, a2, a3, a4, a5, a6, a7, a8⟩
        simp only [Bool.or_eq_false_iff, decide_eq_false_iff_not] at a1 a2
        have hns : x.who ∉ seen := fun h9 => by
          have := (seenB_iff x.who seen).2 h9
          rw [this] at a1; exact absurd a1.2 (by decide)
        refine ⟨a1.1, a2.1, fun z hz => ?_, List.pairwise_cons.2 ⟨a5 x rfl, a4⟩, fun y hy z hz => ?_, ?_, fun z hz => ?_, by omega, a8⟩
        · rcases List.mem_cons.1 hz with rfl | hz
          · exact h2.1
          · exact a3 z hz
        · rcases List.mem_cons.1 hz with rfl | hz
          · exact h2.2 y hy
          · exact spB_trans (h2.2 y hy) (a5 x rfl z hz)
        · rw [List.map_cons, List.nodup_cons]
          refine ⟨fun h9 => ?_, a6⟩
          obtain ⟨z, hz, e⟩ := List.mem_map.1 h9
          exact a7 z hz (by rw [e]; exact List.mem_cons_self ..)
        · rcases List.mem_cons.1 hz with rfl | hz
          · exact hns
          · exact fun h9 => a7 z hz (List.mem_cons_of_mem _ h9)
      · rintro ⟨a1, a2, a3, a4, a5, a6, a7, a8, a9⟩
        rw [List.map_cons, List.nodup_cons] at a6
        rw [List.pairwise_cons] at a4
        have hns : seenB x.who seen = false := by
          cases h9 : seenB x.who seen with
          | false => rfl
          | true => exact absurd ((seenB_iff _ _).1 h9) (a7 x (List.mem_cons_self ..))
        refine ⟨by rw [a1, hns]; rfl, by rw [a2]; simp only [Bool.false_or, decide_eq_false_iff_not]; omega, fun z hz => a3 z (List.mem_cons_of_mem _ hz), a4.2, fun y hy z hz => ?_, a6.2, fun z hz h9 => ?_, a9⟩
        · injection hy with hy; subst hy; exact a4.1 z hz
        · rcases List.mem_cons.1 h9 with h9 | h9
          · exact a6.1 (by rw [← h9]; exact List.mem_map_of_mem hz)
          · exact a7 z (List.mem_cons_of_mem _ hz) h9
    · rw [if_pos h]
      constructor
      · intro h9; exact absurd h9 h
      · rintro ⟨a1, a2, a3, a4, a5, a6, a7, a8⟩
        exact absurd ((stErr_iff p prev x).2 ⟨a3 x (List.mem_cons_self ..), fun y hy => a5 y hy x (List.mem_cons_self ..)⟩) h
structure SOk (p : Pl) (l : List Sp) : Prop where
  pool : poolErr p = 0
  len : l.length ≤ 300
  all : ∀ x ∈ l, stAll p x
  ord : l.Pairwise spB
  nd : (l.map Sp.who).Nodup
  ch : ChainH 0 l
theorem SOk.iff (p : Pl) (l : List Sp) : startsErr p l = 0 ↔ SOk p l := by
  unfold startsErr
  constructor
  · intro h
    split at h
    · rename_i h1; exact absurd h h1
    · rename_i h1
      split at h
      · cases h
      · rename_i h2
        obtain ⟨_, _, a3, a4, _, a6, _, a8⟩ := (startsGo_iff p l _ _ _ _ _).1 h
        exact ⟨Decidable.not_not.1 h1, by omega, a3, a4, a6, a8⟩
  · intro h
    rw [if_neg (not_not_intro h.pool), if_neg (by have := h.len; omega)]
    exact (startsGo_iff p l _ _ _ _ _).2 ⟨rfl, rfl, h.all, h.ord, fun y hy => (by cases hy), h.nd, fun x _ => (by simp), h.ch⟩
theorem spB_heat {x y : Sp} (h : spB x y) : x.heat ≤ y.heat := by unfold spB at h; omega
theorem scrG_facts : ∀ (l : List Sp) (old hh : Int), l.Pairwise spB → (∀ x ∈ l, old ≤ x.heat) → ChainH hh (scrG old hh l) ∧ (scrG old hh l).Pairwise spB ∧ ∀ z ∈ scrG old hh l, ∃ y ∈ l, y.who = z.who ∧ y.lane = z.lane ∧ hh ≤ z.heat ∧ z.heat ≤ hh + (y.heat - old) ∧ (y.heat = old → z.heat = hh) ∧ (old < y.heat → hh < z.heat)
  | [], _, _, _, _ => ⟨trivial, List.Pairwise.nil, fun z hz => (by cases hz)⟩
  | x :: l, old, hh, hp, hm => by
    rw [List.pairwise_cons] at hp
    have hx := hm x (List.mem_cons_self ..)
    obtain ⟨i1, i2, i3⟩ := scrG_facts l x.heat (if x.heat ≠ old then hh + 1 else hh) hp.2 (fun y hy => spB_heat (hp.1 y hy))
    unfold scrG
    generalize hh' : (if x.heat ≠ old then hh + 1 else hh) = h1 at *
    have hd : (x.heat = old ∧ h1 = hh) ∨ (old < x.heat ∧ h1 = hh + 1) := by
      by_cases e : x.heat = old
      · rw [if_neg (not_not_intro e)] at hh'; exact .inl ⟨e, hh'.symm⟩
      · rw [if_pos e] at hh'; exact .inr ⟨by omega, hh'.symm⟩
    refine ⟨⟨by dsimp only; omega, i1⟩, List.pairwise_cons.2 ⟨fun z hz => ?_, i2⟩, fun z hz => ?_⟩
    · obtain ⟨y, y1, y2, y3, y4, y5, y6, y7⟩ := i3 z hz
      have h8 := hp.1 y y1
      unfold spB at *
      dsimp only
      rcases h8 with h8 | h8
      · exact .inl (y7 h8)
      · exact .inr ⟨(y6 h8.1.symm).symm, by omega⟩
    · rcases List.mem_cons.1 hz with rfl | hz
      · exact ⟨x, List.mem_cons_self .., rfl, rfl, by dsimp only; omega, by dsimp only; omega, by dsimp only; omega, by dsimp only; omega⟩
      · obtain ⟨y, y1, y2, y3, y4, y5, y6, y7⟩ := i3 z hz
        have h8 := spB_heat (hp.1 y y1)
        exact ⟨y, List.mem_cons_of_mem _ y1, y2, y3, by omega, by omega, by omega, by omega⟩
theorem scrG_who : ∀ (l : List Sp) (old hh : Int), (scrG old hh l).map Sp.who = l.map Sp.who
  | [], _, _ => rfl
  | x :: l, old, hh => by unfold scrG; rw [List.map_cons, List.map_cons, scrG_who l]
theorem scr_ok {p : Pl} {l : List Sp} (h : SOk p l) (a : List ByteArray) : SOk p (scrL a l) ∧ (∀ z ∈ scrL a l, ∃ y ∈ l, y.who = z.who ∧ y.lane = z.lane ∧ z.heat ≤ y.heat) := by
  have hs := List.filter_sublist (p := fun y : Sp => !Lib.containsS a y.who) (l := l)
  obtain ⟨f1, f2, f3⟩ := scrG_facts (l.filter fun y => !Lib.containsS a y.who) 0 0 (h.ord.sublist hs) (fun x hx => by have := (h.all x (hs.subset hx)).2.1; omega)
  refine ⟨⟨h.pool, ?_, fun z hz => ?_, f2, ?_, f1⟩, fun z hz => ?_⟩
  · unfold scrL; rw [scrG_len]; exact Nat.le_trans hs.length_le h.len
  · obtain ⟨y, y1, y2, y3, y4, y5, y6, y7⟩ := f3 z hz
    obtain ⟨q1, q2, q3⟩ := h.all y (hs.subset y1)
    exact ⟨by rw [← y2]; exact q1, by omega, by rw [← y3]; exact q3⟩
  · unfold scrL; rw [scrG_who]; exact h.nd.sublist (hs.map _)
  · obtain ⟨y, y1, y2, y3, y4, y5, y6, y7⟩ := f3 z hz
    exact ⟨y, hs.subset y1, y2, y3, by omega⟩
theorem len_filters {α : Type} (f : α → Bool) : ∀ l : List α, (l.filter f).length + (l.filter fun x => !f x).length = l.length
  | [] => rfl
  | x :: l => by
    have := len_filters f l
    cases h : f x <;> simp [h] <;> omega
theorem scr_len {l : List Sp} {a : List ByteArray} (hn : (l.map Sp.who).Nodup) (ha : goneErr (l.map Sp.who) a = 0) : (scrL a l).length + a.length = l.length := by
  obtain ⟨_, g2, g3⟩ := goneErr_ok ha
  unfold scrL
  rw [scrG_len]
  have h1 := len_filters (fun y : Sp => Lib.containsS a y.who) l
  have h2 : ((l.filter fun y : Sp => Lib.containsS a y.who).map Sp.who).Perm a := by
    refine (List.perm_ext_iff_of_nodup (hn.sublist (List.filter_sublist.map _)) g3).2 fun s => ⟨fun hs => ?_, fun hs => ?_⟩
    · obtain ⟨x, hx, rfl⟩ := List.mem_map.1 hs
      exact (Lib.containsS_iff _ _).1 (List.mem_filter.1 hx).2
    · obtain ⟨x, hx, rfl⟩ := List.mem_map.1 (g2 s hs)
      exact List.mem_map.2 ⟨x, List.mem_filter.2 ⟨hx, (Lib.containsS_iff _ _).2 hs⟩, rfl⟩
  have h3 := h2.length_eq
  rw [List.length_map] at h3
  omega
/- the greatest heat -/
theorem maxG_spec : ∀ (l : List Sp) (m : Int), m ≤ maxG m l ∧ (∀ x ∈ l, x.heat ≤ maxG m l) ∧ (maxG m l = m ∨ ∃ x ∈ l, x.heat = maxG m l)
  | [], m => ⟨Int.le_refl _, fun x hx => (by cases hx), .inl rfl⟩
  | x :: l, m => by
    unfold maxG
    obtain ⟨h1, h2, h3⟩ := maxG_spec l (max m x.heat)
    refine ⟨by omega, fun y hy => ?_, ?_⟩
    · rcases List.mem_cons.1 hy with rfl | hy
      · omega
      · exact h2 y hy
    · rcases h3 with h3 | ⟨y, y1, y2⟩
      · by_cases e : m ≤ x.heat
        · exact .inr ⟨x, List.mem_cons_self .., by omega⟩
        · exact .inl (by omega)
      · exact .inr ⟨y, List.mem_cons_of_mem _ y1, y2⟩
theorem emH_heat {p : Pl} {l : List Sp} {x : Sp} : ∀ (m : Nat) (h : Int), x ∈ emH p l h m → h ≤ x.heat ∧ x.heat < h + m
  | 0, h, hx => by cases hx
  | m + 1, h, hx => by
    rw [emH] at hx
    rcases List.mem_append.1 hx with hx | hx
    · have := (emL_mem _ _ hx).2.1; omega
    · have := emH_heat m (h + 1) hx; omega
theorem ifC {a b : Prop} [Decidable a] [Decidable b] (h : a ↔ b) : (if a then 1 else 0 : Nat) = if b then 1 else 0 := by
  by_cases hb : b
  · rw [if_pos hb, if_pos (h.2 hb)]
  · rw [if_neg hb, if_neg (fun ha => hb (h.1 ha))]
theorem emL_count {l L : List Sp} {fh l0 : Int} (h0 : tkn l fh l0 = false) (hL : ∀ h ln, tkn L h ln = (tkn l h ln || decide (h = fh ∧ ln = l0))) (h : Int) : ∀ (m : Nat) (a : Int), (emL L h a m).length + (if h = fh ∧ a ≤ l0 ∧ l0 < a + m then 1 else 0) = (emL l h a m).length
  | 0, a => by
    rw [if_neg (by omega)]; rfl
  | m + 1, a => by
    have ih := emL_count h0 hL h m (a + 1)
    rw [emL, emL, List.length_append, List.length_append, hL]
    by_cases e : h = fh ∧ a = l0
    · obtain ⟨rfl, rfl⟩ := e
      have hq : h = h ∧ a ≤ a ∧ a < a + ((m + 1 : Nat) : Int) := ⟨rfl, by omega, by omega⟩
      have hq2 : ¬ (h = h ∧ a + 1 ≤ a ∧ a < a + 1 + (m : Int)) := by omega
      have hq3 : (false || decide (h = h ∧ a = a)) = true := by simp
      rw [h0, if_pos hq, if_pos hq3, if_neg (show ¬ (false = true) by decide)]
      rw [if_neg hq2] at ih
      simp only [List.length_nil, List.length_cons]
      omega
    · rw [decide_eq_false e, Bool.or_false]
      have e2 : (h = fh ∧ a ≤ l0 ∧ l0 < a + ((m + 1 : Nat) : Int)) ↔ (h = fh ∧ a + 1 ≤ l0 ∧ l0 < a + 1 + (m : Int)) := by omega
      rw [ifC e2]
      omega
theorem emH_count {p : Pl} {l L : List Sp} {fh l0 : Int} (h0 : tkn l fh l0 = false) (hL : ∀ h ln, tkn L h ln = (tkn l h ln || decide (h = fh ∧ ln = l0))) (hl : p.lo ≤ l0 ∧ l0 ≤ p.hi) : ∀ (m : Nat) (h : Int), (emH p L h m).length + (if h ≤ fh ∧ fh < h + m then 1 else 0) = (emH p l h m).length
  | 0, h => by rw [if_neg (by omega)]; rfl
  | m + 1, h => by
    have ih := emH_count h0 hL hl m (h + 1)
    have h1 := emL_count h0 hL h (p.hi + 1 - p.lo).toNat p.lo
    rw [emH, emH, List.length_append, List.length_append]
    by_cases e : h = fh
    · rw [if_pos (by omega)] at h1
      rw [if_neg (by omega)] at ih
      rw [if_pos (by omega)]
      omega
    · rw [if_neg (by omega)] at h1
      have e2 : (h ≤ fh ∧ fh < h + ((m + 1 : Nat) : Int)) ↔ (h + 1 ≤ fh ∧ fh < h + 1 + (m : Int)) := by omega
      rw [ifC e2]
      omega
/- heats without a gap -/
theorem ch_iff : ∀ (l : List Sp) (last : Int), l.Pairwise spB → (∀ x ∈ l, last ≤ x.heat) → (ChainH last l ↔ ∀ x ∈ l, ∀ h, last < h → h ≤ x.heat → ∃ y ∈ l, y.heat = h)
  | [], last, _, _ => ⟨fun _ x hx => (by cases hx), fun _ => trivial⟩
  | x :: l, last, hp, hm => by
    rw [List.pairwise_cons] at hp
    have ih := ch_iff l x.heat hp.2 (fun y hy => spB_heat (hp.1 y hy))
    have hx := hm x (List.mem_cons_self ..)
    unfold ChainH
    rw [ih]
    constructor
    · rintro ⟨h1, h2⟩ z hz h h3 h4
      by_cases e : h ≤ x.heat
      · exact ⟨x, List.mem_cons_self .., by omega⟩
      · rcases List.mem_cons.1 hz with rfl | hz
        · omega
        · obtain ⟨y, y1, y2⟩ := h2 z hz h (by omega) h4
          exact ⟨y, List.mem_cons_of_mem _ y1, y2⟩
    · intro h1
      refine ⟨?_, fun z hz h h3 h4 => ?_⟩
      · apply Decidable.byContradiction
        intro h2
        obtain ⟨y, y1, y2⟩ := h1 x (List.mem_cons_self ..) (last + 1) (by omega) (by omega)
        rcases List.mem_cons.1 y1 with rfl | y1
        · omega
        · have := spB_heat (hp.1 y y1); omega
      · obtain ⟨y, y1, y2⟩ := h1 z (List.mem_cons_of_mem _ hz) h (by omega) h4
        rcases List.mem_cons.1 y1 with rfl | y1
        · omega
        · exact ⟨y, y1, y2⟩
theorem lateF_mem {p : Pl} (hp : PlOk p) {l : List Sp} {who : ByteArray} {f : Sp} (hf : f ∈ emptyL p l) : ∃ ln, lateF (emptyL p l) who f.heat (laneV p.lo p.hi) = [⟨who, f.heat, ln⟩] ∧ (⟨⟨#[]⟩, f.heat, ln⟩ : Sp) ∈ emptyL p l := by
  obtain ⟨a1, ⟨a2, a3⟩, a4⟩ := empty_mem hf
  unfold lateF
  cases hc : (laneV p.lo p.hi).find? (fun ln => decide ((⟨⟨#[]⟩, f.heat, ln⟩ : Sp) ∈ emptyL p l)) with
  | none =>
    have h1 := List.find?_eq_none.1 hc f.lane (lanes_mem hp a2 a3)
    obtain ⟨fw, fh, fl⟩ := f
    dsimp only at *
    subst a1
    exact absurd (decide_eq_true hf) h1
  | some ln =>
    have h9 := List.find?_some hc
    exact ⟨ln, rfl, of_decide_eq_true h9⟩
theorem tkn_iff (l : List Sp) (h ln : Int) : tkn l h ln = true ↔ ∃ x ∈ l, x.heat = h ∧ x.lane = ln := by
  unfold tkn
  rw [List.any_eq_true]
  simp only [decide_eq_true_eq]
/-- a late one: right starts again, and one empty lane less -/
theorem late_ok {p : Pl} {l L : List Sp} {who : ByteArray} {f : Sp} (h : SOk p l) (h20 : l.length ≤ 200) (hk : keyB who = true) (hw : who ∉ l.map Sp.who) (hf : f ∈ emptyL p l) (hL : SpSortF (l ++ lateF (emptyL p l) who f.heat (laneV p.lo p.hi)) L) : SOk p L ∧ (emptyL p L).length + 1 = (emptyL p l).length := by
  have hpo := (startsErr_ok ((SOk.iff p l).2 h)).pool
  obtain ⟨ln, e1, e2⟩ := lateF_mem hpo (who := who) hf
  rw [e1] at hL
  obtain ⟨_, m2, m3⟩ := empty_mem e2
  dsimp only at m2 m3
  have hmh := emH_heat _ _ e2
  dsimp only at hmh
  obtain ⟨g1, g2, g3⟩ := maxG_spec l 0
  have hmax : maxG 0 l ≤ 60 := by
    rcases g3 with g3 | ⟨y, y1, y2⟩
    · omega
    · have := (h.all y y1).2.1; omega
  have hfh : 1 ≤ f.heat ∧ f.heat ≤ maxG 0 l := by omega
  obtain ⟨z, z1, z2⟩ : ∃ z ∈ l, z.heat = maxG 0 l := by
    rcases g3 with g3 | g3
    · omega
    · exact g3
  have hmem : ∀ x, x ∈ L ↔ x ∈ l ∨ x = ⟨who, f.heat, ln⟩ := fun x => by rw [hL.1.mem_iff, List.mem_append, List.mem_singleton]
  have hdist : L.Pairwise fun x y => ¬ (x.heat = y.heat ∧ x.lane = y.lane) := by
    refine (hL.1.pairwise_iff (fun {x y} hxy h9 => hxy ⟨h9.1.symm, h9.2.symm⟩)).2 ?_
    refine List.pairwise_append.2 ⟨h.ord.imp (fun h => by unfold spB at h; omega), by simp, fun x hx y hy => ?_⟩
    obtain rfl := List.mem_singleton.1 hy
    dsimp only
    intro h9
    have h8 := List.any_eq_false.1 (show (l.any fun x => decide (x.heat = f.heat ∧ x.lane = ln)) = false from m3) x hx
    exact h8 (decide_eq_true h9)
  have hord : L.Pairwise spB := by
    refine (hL.2.and hdist).imp fun {x y} hxy => ?_
    have h1 := (spLtF_no y x).1 hxy.1
    have h2 := hxy.2
    unfold spB
    omega
  have hheat : ∀ x ∈ L, ∀ h', 0 < h' → h' ≤ x.heat → ∃ y ∈ l, y.heat = h' := by
    have hc := (ch_iff l 0 h.ord (fun x hx => by have := (h.all x hx).2.1; omega)).1 h.ch
    intro x hx h' h1 h2
    rcases (hmem x).1 hx with hx | rfl
    · exact hc x hx h' h1 h2
    · exact hc z z1 h' h1 (by dsimp only at h2; omega)
  refine ⟨⟨h.pool, ?_, fun x hx => ?_, hord, ?_, ?_⟩, ?_⟩
  · rw [hL.1.length_eq, List.length_append]; simp; omega
  · rcases (hmem x).1 hx with hx | rfl
    · exact h.all x hx
    · exact ⟨hk, ⟨hfh.1, by dsimp only; omega⟩, m2⟩
  · rw [(hL.1.map Sp.who).nodup_iff, List.map_append, List.nodup_append]
    refine ⟨h.nd, by simp, fun a ha b hb e => ?_⟩
    simp at hb
    subst hb; subst e
    exact hw ha
  · refine (ch_iff L 0 hord (fun x hx => ?_)).2 fun x hx h' h1 h2 => ?_
    · rcases (hmem x).1 hx with hx | rfl
      · have := (h.all x hx).2.1; omega
      · dsimp only; omega
    · obtain ⟨y, y1, y2⟩ := hheat x hx h' h1 h2
      exact ⟨y, (hmem y).2 (.inl y1), y2⟩
  · have hmx : maxG 0 L = maxG 0 l := by
      obtain ⟨q1, q2, q3⟩ := maxG_spec L 0
      have h1 : maxG 0 l ≤ maxG 0 L := by rw [← z2]; exact q2 z ((hmem z).2 (.inl z1))
      rcases q3 with q3 | ⟨y, y1, y2⟩
      · omega
      · rcases (hmem y).1 y1 with y1 | rfl
        · have := g2 y y1; omega
        · dsimp only at y2; omega
    have hT : ∀ h' l', tkn L h' l' = (tkn l h' l' || decide (h' = f.heat ∧ l' = ln)) := fun h' l' => by
      rw [Bool.eq_iff_iff, tkn_iff, Bool.or_eq_true, tkn_iff, decide_eq_true_eq]
      constructor
      · rintro ⟨x, x1, x2⟩
        rcases (hmem x).1 x1 with x1 | rfl
        · exact .inl ⟨x, x1, x2⟩
        · exact .inr ⟨x2.1.symm, x2.2.symm⟩
      · rintro (⟨x, x1, x2⟩ | ⟨rfl, rfl⟩)
        · exact ⟨x, (hmem x).2 (.inl x1), x2⟩
        · exact ⟨_, (hmem _).2 (.inr rfl), rfl, rfl⟩
    have hc := emH_count m3 hT m2 (maxG 0 l).toNat 1
    unfold emptyL
    rw [hmx]
    rw [if_pos (by omega)] at hc
    exact hc
end Go.Proofs.YtffhobmkbabllaaGreatDoor
