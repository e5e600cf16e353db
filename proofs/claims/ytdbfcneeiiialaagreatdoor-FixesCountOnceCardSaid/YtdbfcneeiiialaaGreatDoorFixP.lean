/- Sheets that are put right by fixes: plain. -/
import Derived.Test.YtdbfcneeiiialaaGreatDoorFxB
import Derived.Test.YtdbfcneeiiialaaGreatDoorSheetP
namespace Go.Proofs.YtdbfcneeiiialaaGreatDoor
open Go.Lib Go.Sort
set_option linter.unusedVariables false

def lpPut (le tm : Int) (p : LP.Lp) : LP.Lp := if p.length = le then ⟨p.length, tm, false⟩ else p
/-- what a fix that counts makes of a sheet -/
def putV (x : Fx) (s : Shd) : Shd :=
  if x.tm = 0 then s else if x.le = 0 then ⟨s.lane, s.laps, x.tm, 4⟩ else ⟨s.lane, s.laps.map (lpPut x.le x.tm), s.time, s.by_⟩
theorem lpPut_idem (le tm : Int) (p : LP.Lp) : lpPut le tm (lpPut le tm p) = lpPut le tm p := by
  unfold lpPut
  by_cases h : p.length = le
  · rw [if_pos h, if_pos h]
  · rw [if_neg h, if_neg h]
theorem lpPut_comm {le le2 : Int} (h : le ≠ le2) (tm tm2 : Int) (p : LP.Lp) : lpPut le tm (lpPut le2 tm2 p) = lpPut le2 tm2 (lpPut le tm p) := by
  unfold lpPut
  by_cases h1 : p.length = le
  · have h2 : ¬ p.length = le2 := fun e => h (h1.symm.trans e)
    rw [if_neg h2, if_pos h1, if_neg h2]
  · by_cases h2 : p.length = le2
    · rw [if_pos h2, if_neg h1, if_neg h1, if_pos h2]
    · rw [if_neg h2, if_neg h1, if_neg h2]
theorem putV_idem (x : Fx) (s : Shd) : putV x (putV x s) = putV x s := by
  unfold putV
  by_cases h0 : x.tm = 0
  · rw [if_pos h0, if_pos h0]
  · by_cases h1 : x.le = 0
    · rw [if_neg h0, if_pos h1, if_neg h0, if_pos h1]
    · rw [if_neg h0, if_neg h1, if_neg h0, if_neg h1]
      dsimp only
      rw [List.map_map]
      congr 1
      exact List.map_congr_left fun p _ => lpPut_idem _ _ p
theorem putV_t0 {x : Fx} (h : x.tm = 0) (s : Shd) : putV x s = s := if_pos h
theorem putV_sw {x : Fx} (h : ¬ x.tm = 0) (h1 : x.le = 0) (s : Shd) : putV x s = ⟨s.lane, s.laps, x.tm, 4⟩ := by unfold putV; rw [if_neg h, if_pos h1]
theorem putV_lp {x : Fx} (h : ¬ x.tm = 0) (h1 : ¬ x.le = 0) (s : Shd) : putV x s = ⟨s.lane, s.laps.map (lpPut x.le x.tm), s.time, s.by_⟩ := by unfold putV; rw [if_neg h, if_neg h1]
theorem putV_comm {x y : Fx} (h : x.le ≠ y.le) (s : Shd) : putV x (putV y s) = putV y (putV x s) := by
  by_cases hx : x.tm = 0
  · rw [putV_t0 hx, putV_t0 hx]
  · by_cases hy : y.tm = 0
    · rw [putV_t0 hy, putV_t0 hy]
    · by_cases h1 : x.le = 0
      · have h2 : ¬ y.le = 0 := fun e => h (h1.trans e.symm)
        rw [putV_lp hy h2 s, putV_sw hx h1 s, putV_sw hx h1, putV_lp hy h2]
      · by_cases h2 : y.le = 0
        · rw [putV_sw hy h2 s, putV_lp hx h1 s, putV_lp hx h1, putV_sw hy h2]
        · rw [putV_lp hy h2 s, putV_lp hx h1 s, putV_lp hx h1, putV_lp hy h2]
          dsimp only
          rw [List.map_map, List.map_map]
          congr 1
          exact List.map_congr_left fun p _ => lpPut_comm h _ _ p
def putsV (l : List Fx) (s : Shd) : Shd := l.foldl (fun s x => putV x s) s
theorem putsV_cons (x : Fx) (r : List Fx) (s : Shd) : putsV (x :: r) s = putsV r (putV x s) := rfl
theorem putsV_comm {x : Fx} : ∀ {r : List Fx}, (∀ y ∈ r, x.le ≠ y.le) → ∀ s, putV x (putsV r s) = putsV r (putV x s)
  | [], _, _ => rfl
  | y :: r, h, s => by
    rw [putsV_cons, putsV_cons, putsV_comm fun z hz => h z (List.mem_cons_of_mem _ hz), putV_comm (h y (List.mem_cons_self ..))]
theorem putsV_fix : ∀ {l : List Fx}, (l.Pairwise fun x y => x.le ≠ y.le) → ∀ s, ∀ x ∈ l, putV x (putsV l s) = putsV l s
  | [], _, _, x, hx => by cases hx
  | y :: r, h, s, x, hx => by
    rw [List.pairwise_cons] at h
    rw [putsV_cons]
    rcases List.mem_cons.1 hx with rfl | hx
    · rw [putsV_comm h.1, putV_idem]
    · exact putsV_fix h.2 _ x hx
theorem putsV_same : ∀ {l : List Fx} {s : Shd}, (∀ x ∈ l, putV x s = s) → putsV l s = s
  | [], _, _ => rfl
  | x :: r, s, h => by
    rw [putsV_cons, h x (List.mem_cons_self ..)]
    exact putsV_same fun y hy => h y (List.mem_cons_of_mem _ hy)
theorem putsV_idem {l : List Fx} (h : l.Pairwise fun x y => x.le ≠ y.le) (s : Shd) : putsV l (putsV l s) = putsV l s := putsV_same (putsV_fix h s)
theorem putV_lane (x : Fx) (s : Shd) : (putV x s).lane = s.lane := by unfold putV; split; rfl; split <;> rfl
theorem putsV_lane : ∀ (l : List Fx) (s : Shd), (putsV l s).lane = s.lane
  | [], _ => rfl
  | x :: r, s => by rw [putsV_cons, putsV_lane r, putV_lane]
theorem putV_len (x : Fx) (s : Shd) : (putV x s).laps.length = s.laps.length := by
  unfold putV
  split
  · rfl
  · split
    · rfl
    · exact List.length_map ..
/-- the same place -/
def samePl (x y : Fx) : Bool := decide (x.rc = y.rc) && (decide (x.ht = y.ht) && (decide (x.ln = y.ln) && decide (x.le = y.le)))
/-- no later version of the same place -/
def lastF (o : Option Fx) (x : Fx) : Bool := match o with
  | none => true
  | some y => !samePl y x
def hitF (key : ByteArray) (heat lane : Int) (o : Option Fx) (x : Fx) : Bool := lastF o x && (decide (x.rc = key) && (decide (x.ht = heat) && decide (x.ln = lane)))
/-- the fixes that count for a lane -/
def actF (key : ByteArray) (heat lane : Int) : List Fx → List Fx
  | [] => []
  | x :: r => if hitF key heat lane r.head? x = true then x :: actF key heat lane r else actF key heat lane r
theorem actF_mem {key : ByteArray} {heat lane : Int} : ∀ {l : List Fx} {x : Fx}, x ∈ actF key heat lane l → x ∈ l ∧ x.rc = key ∧ x.ht = heat ∧ x.ln = lane
  | [], x, h => by cases h
  | y :: r, x, h => by
    unfold actF at h
    split at h
    · rename_i hh
      rcases List.mem_cons.1 h with rfl | h
      · unfold hitF at hh
        simp only [Bool.and_eq_true, decide_eq_true_eq] at hh
        exact ⟨List.mem_cons_self .., hh.2⟩
      · obtain ⟨a, b⟩ := actF_mem h
        exact ⟨List.mem_cons_of_mem _ a, b⟩
    · obtain ⟨a, b⟩ := actF_mem h
      exact ⟨List.mem_cons_of_mem _ a, b⟩
theorem actF_pair {key : ByteArray} {heat lane : Int} : ∀ {l : List Fx}, (l.Pairwise fun x y => fxCf x y < 0) → (actF key heat lane l).Pairwise fun x y => x.le ≠ y.le
  | [], _ => .nil
  | x :: r, h => by
    rw [List.pairwise_cons] at h
    unfold actF
    split
    · rename_i hh
      refine List.pairwise_cons.2 ⟨fun y hy e => ?_, actF_pair h.2⟩
      obtain ⟨y1, y2, y3, y4⟩ := actF_mem hy
      unfold hitF at hh
      simp only [Bool.and_eq_true, decide_eq_true_eq] at hh
      obtain ⟨hl, x2, x3, x4⟩ := hh
      cases r with
      | nil => cases y1
      | cons z r =>
        have hz := h.1 z (List.mem_cons_self ..)
        have hz2 : z = y ∨ fxCf z y < 0 := by
          rcases List.mem_cons.1 y1 with h9 | h9
          · exact .inl h9.symm
          · exact .inr ((List.pairwise_cons.1 h.2).1 y h9)
        have hs : samePl z x = true := by
          unfold samePl
          simp only [Bool.and_eq_true, decide_eq_true_eq]
          rcases hz2 with rfl | hz2
          · exact ⟨y2.trans x2.symm, y3.trans x3.symm, y4.trans x4.symm, e.symm⟩
          · rw [fxKey_neg] at hz hz2
            have exy : x.rc = y.rc := x2.trans y2.symm
            have hzx : z.rc = x.rc := by
              rcases hz with hz | ⟨hz, _⟩
              · rcases hz2 with hz2 | ⟨hz2, _⟩
                · rw [← exy] at hz2
                  have := cmpB_neg.1 hz
                  omega
                · rw [cmpB_zero.1 hz2, ← exy]
              · exact (cmpB_zero.1 hz).symm
            have c1 : cmpB x.rc z.rc = 0 := cmpB_zero.2 hzx.symm
            have c2 : cmpB z.rc y.rc = 0 := cmpB_zero.2 (hzx.trans exy)
            unfold fxL at hz hz2
            refine ⟨hzx, ?_⟩
            omega
        unfold lastF at hl
        simp only [List.head?_cons] at hl
        rw [hs] at hl
        cases hl
    · exact actF_pair h.2
theorem actF_idem {key : ByteArray} {heat lane : Int} {l : List Fx} (h : l.Pairwise fun x y => fxCf x y < 0) (s : Shd) : putsV (actF key heat lane l) (putsV (actF key heat lane l) s) = putsV (actF key heat lane l) s := putsV_idem (actF_pair h) s
theorem actF_cons (key : ByteArray) (heat lane : Int) (x : Fx) (r : List Fx) : actF key heat lane (x :: r) = if hitF key heat lane r.head? x = true then x :: actF key heat lane r else actF key heat lane r := rfl
/-- step by step, as the program goes -/
theorem act_step {key : ByteArray} {heat lane : Int} {l : List Fx} {k : Nat} {x : Fx} (h : l[k]? = some x) (s : Shd) :
    putsV (actF key heat lane (l.drop k)) s = putsV (actF key heat lane (l.drop (k + 1))) (if hitF key heat lane l[k + 1]? x = true then putV x s else s) := by
  rw [drop_at h]
  have e : (l.drop (k + 1)).head? = l[k + 1]? := by rw [List.head?_drop]
  rw [actF_cons, e]
  split <;> rfl
/-- the errors of sheets, and what becomes of them -/
def shtErr : Option Int → List Shd → Int
  | _, [] => 0
  | o, s :: r => if ¬ (1 ≤ s.lane ∧ s.lane ≤ 10) then 1 else if (match o with | some p => decide (s.lane ≤ p) | none => false) = true then 7 else shtErr (some s.lane) r
def fixdErr (r : Race) (f : List Fx) (heat : Int) (S : List Shd) : Int :=
  if raceErr r ≠ 0 then raceErr r else if fxErr f ≠ 0 then fxErr f else if ¬ (1 ≤ heat ∧ heat ≤ 60) then 1 else if 10 < S.length then 2 else shtErr none S
def fixdL (r : Race) (f : List Fx) (heat : Int) (S : List Shd) : List Shd := S.map fun s => putsV (actF r.key heat s.lane f) s
end Go.Proofs.YtdbfcneeiiialaaGreatDoor
