import Derived.Test.YtamcmehmcbjgjaaGreatDoorStructs
import Derived.Test.YtamcmehmcbjgjaaGreatDoorTurns
import Derived.Deep.RegionHeld3
import Derived.BigGuardPart
import Derived.IntWalk
import Derived.Test.YtamcmehmcbjgjaaGreatDoorRows2
import Derived.Deep.AppendLies
import Derived.Test.YtamcmehmcbjgjaaGreatDoorProg
import Derived.Laws.StructEq
/- Fields of swimmers: as data; the checks of a field. -/
namespace Go.Proofs.YtamcmehmcbjgjaaGreatDoor
open Go.RowKit
set_option linter.unusedVariables false

structure Sw where
  who : ByteArray
  A : Option Addr
  n : Nat
  c : Nat
  sp : List Int
def swE (x : Sw) : List Value := [.string x.who, .slice x.A x.n x.c]
theorem swE_len : ∀ x, (swE x).length = 2 := fun _ => rfl
/-- a field in memory: the structs, and each one's splits -/
def RSw (w : World) (A : Option Addr) (n : Nat) (l : List Sw) : Prop := RN 2 swE 42 w A n l ∧ ∀ x ∈ l, RI 3 w x.A x.n x.sp
section
variable {w w' : World} {A : Option Addr} {n : Nat} {l : List Sw}
theorem RSw.len (h : RSw w A n l) : l.length = n := h.1.len
theorem RSw.bd (h : RSw w A n l) : n ≤ 140737488355328 := h.1.bd
theorem RSw.below (h : RSw w A n l) (hb : Below w.heap.size w w') : RSw w' A n l := ⟨h.1.below hb, fun x hx => (h.2 x hx).below hb⟩
theorem RSw.keep {T : TypeId} (h : RSw w A n l) (he : 42 ≠ T ∧ 3 ≠ T) (hk : Keep T w w') : RSw w' A n l := ⟨h.1.keep he.1 hk, fun x hx => (h.2 x hx).keep he.2 hk⟩
theorem RSw.alloc (h : RSw w A n l) (o : Obj) : RSw (w.alloc o) A n l := h.below (below_new w o)
theorem RSw.drewN (h : RSw w A n l) (k : Nat) : RSw (w.drewN k) A n l := h
theorem RSw.drew (h : RSw w A n l) : RSw w.drew A n l := h
theorem RSw.nil_ (w : World) : RSw w none 0 [] := ⟨RN.nil_ _ _ _ _ _, fun x hx => by cases hx⟩
theorem RSw.at2 (h : RSw w A n l) {k : Nat} (hk : k < n) : ∃ b off x, A = some ⟨b, off, none⟩ ∧ b < w.heap.size ∧ l[k]? = some x ∧ w.cell? ⟨b, off + k * 2, none⟩ = some (.string x.who) ∧ w.cell? ⟨b, off + k * 2 + 1, none⟩ = some (.slice x.A x.n x.c) ∧ RI 3 w x.A x.n x.sp := by
  obtain ⟨b, off, x, hA, hb, hx, hc⟩ := h.1.at_ hk
  exact ⟨b, off, x, hA, hb, hx, hc 0 _ rfl, hc 1 _ rfl, h.2 x (List.mem_of_getElem? hx)⟩
end
/-- what an append onto a row leaves: every block of another element type -/
theorem keep_of_app {w w' : World} {base : Nat} {e : TypeId} {size n : Nat} {v : Value} {xs : List Value} (hown : w.ownsRow base e size v n xs) (hg : w.grownBy w' v.ownBlock) : Keep e w w' := fun b cs t fz hne hb => blk_grown hb hg (fun he => by
  rcases hown.2 with ⟨rfl, _⟩ | ⟨g', cap, cur, rfl, _, hh, _⟩
  · simp [Value.ownBlock] at he
  · have e1 : b = g' := by simpa [Value.ownBlock] using he
    subst e1
    rw [hb] at hh
    injection hh with hh
    injection hh with _ ht
    exact hne ht)
/-- what a stream call leaves -/
theorem RSw.stream {w w' : World} {A : Option Addr} {n g : Nat} {l : List Sw} {zs : Zs} {k : Nat} (h : RSw w A n l) (hs : St w g zs k) (hg : w.grownBy w' (some g)) : RSw w' A n l := h.keep (T := 25) ⟨by decide, by decide⟩ (hs.keep hg)

/-! ## the checks -/
def leS (a b : ByteArray) : Bool := Op.bytesLess a.toList b.toList || (a.toList == b.toList)
def leO (a : ByteArray) : Option ByteArray → Bool
  | none => false
  | some b => leS a b
def fieldGo (r : Race) : Option ByteArray → List Sw → Int
  | _, [] => 0
  | p, x :: l => if keyB x.who = false then 5 else if leO x.who p = true then 7 else if wholeErr r x.sp ≠ 0 then wholeErr r x.sp else fieldGo r (some x.who) l
def fieldErr (r : Race) (l : List Sw) : Int := if raceErr r ≠ 0 then raceErr r else if 20 < l.length then 2 else fieldGo r none l
def prevS (l : List Sw) (k : Nat) : Option ByteArray := if k = 0 then none else (l[k - 1]?).map Sw.who
theorem prevS_succ {l : List Sw} {k : Nat} {x : Sw} (h : l[k]? = some x) : prevS l (k + 1) = some x.who := by unfold prevS; rw [if_neg (by omega)]; show (l[k]?).map Sw.who = _; rw [h]; rfl
theorem fieldGo_at {r : Race} {l : List Sw} {k : Nat} {x : Sw} (p : Option ByteArray) (h : l[k]? = some x) : fieldGo r p (l.drop k) = if keyB x.who = false then 5 else if leO x.who p = true then 7 else if wholeErr r x.sp ≠ 0 then wholeErr r x.sp else fieldGo r (some x.who) (l.drop (k + 1)) := by rw [drop_at h]; rfl

set_option maxHeartbeats 6400000 in
set_option maxRecDepth 100000 in
theorem checkField_c (r : Race) (A : Option Addr) (n c : Nat) (l : List Sw) (w : World) (h : RSw w A n l) :
    Calls Tryz.prog 43 #[r.val, .slice A n c] w fun e w' => e = .returned (.int .i64 (fieldErr r l)) ∧ Below w.heap.size w w' := by
  have hl := h.len
  have hbd := h.bd
  have hE : fieldErr r l = if raceErr r ≠ 0 then raceErr r else if 20 < n then 2 else fieldGo r none l := by unfold fieldErr; rw [hl]
  have hCr := Lib.hid (fun W => checkRace_c r W)
  have hCw := Lib.hid (fun A n c l W h => checkWhole_c r A n c l W h)
  have hGa := Lib.hid (fun k x p (h : l[k]? = some x) => fieldGo_at (r := r) p h)
  have hG0 := Lib.hid (show ∀ p, fieldGo r p [] = 0 from fun p => rfl)
  generalize fieldErr r l = E at *
  generalize wholeErr r = WE at *
  generalize fieldGo r = FG at *
  generalize raceErr r = RE at *
  have hE' := Lib.hid hE
  clear hE hl
  obtain ⟨key, metres, stroke, course, legs, sex, young, old⟩ := r
  dsimp only [Race.val, Race.cells] at *
  have hb := heap_alloc_new w (.cells #[.string key, .int .i64 metres, .int .i64 stroke, .int .i64 course, .int .i64 legs, .int .i64 sex, .int .i64 young, .int .i64 old] 27)
  by_cases hre : RE = 0
  rotate_left
  · have ht : (RE != 0) = true := by simpa using hre
    have hR := Lib.hid (show E = RE by rw [hE'.out, if_pos hre])
    clear hre hE'
    go_enter Tryz.func43, Tryz.ntmps43
    go_wp2_with fail
    refine (hCr.out _).mono ?_; rintro e w1 ⟨rfl, B1⟩
    go_wp2
    go_ret
    exact ⟨ret_i hR.out.symm, below_box B1⟩
  have hE2 := Lib.hid (show E = if 20 < n then 2 else FG none l by rw [hE'.out, if_neg (by simpa using hre)])
  subst hre
  clear hE'
  go_enter Tryz.func43, Tryz.ntmps43
  go_wp2_with fail
  refine (hCr.out _).mono ?_; rintro e w1 ⟨rfl, B1⟩
  replace hb := blk_below hb B1
  have hB := below_box B1
  clear B1 hCr
  by_cases hbig : 20 < n
  · go_wp2
    go_ret
    exact ⟨ret_i (by rw [hE2.out, if_pos hbig]), hB⟩
  go_wp2
  go_loopw [19] (fun i wr => ∃ k : Nat, k ≤ n ∧ i = .int .i64 k ∧ Below w1.heap.size w1 wr ∧ Hid (FG (prevS l k) (l.drop k) = FG none l)) (fun i _ => n - (intOf i).toNat)
  case atStart => exact ⟨0, Nat.zero_le _, rfl, Below.refl _ _, Lib.hid rfl⟩
  case round =>
    obtain ⟨k, hk, rfl, hBr, hF⟩ := hrel
    have hBw := below_next hB hBr
    by_cases hlt : k < n
    · obtain ⟨b, off, x, rfl, hbl, hx, c0, c1, hI⟩ := (h.below hBw).at2 hlt
      have hS := Lib.hid (hGa.out k x (prevS l k) hx)
      have hP := Lib.hid (prevS_succ hx)
      have hbr := blk_below hb hBr
      obtain ⟨who, xA, xn, xc, sp⟩ := x
      dsimp only at *
      clear hx
      go_wp2_with fail
      refine (isKey_c who _).mono ?_; rintro e w2 ⟨rfl, B2⟩
      have hbox := blk_below (heap_alloc_new wr _) B2
      have hbr2 := blk_below (blk_alloc hbr _) B2
      have hI2 := (hI.alloc _).below B2
      have hB2 := below_nextBox hBw B2
      have hBr2 := below_nextBox hBr B2
      clear c0 c1 hI
      cases hkb : keyB who
      · have hR := Lib.hid (show FG none l = 5 by rw [← hF.out, hS.out, if_pos hkb])
        clear hkb
        go_wp2
        go_ret
        exact ⟨ret_i (by rw [hE2.out, if_neg hbig, hR.out]), hB2⟩
      have hS2 := Lib.hid (show FG (prevS l k) (l.drop k) = if leO who (prevS l k) = true then 7 else if WE sp ≠ 0 then WE sp else FG (some who) (l.drop (k + 1)) by rw [hS.out, if_neg (by simp [hkb])])
      clear hS hkb
      have zx := (blk_facts hbox).1 0
      have zy := (blk_facts hbox).1 1
      have hlt2 := lt_of_heap hbox
      by_cases hk0 : k = 0
      · subst hk0
        have hS3 := Lib.hid (show FG none l = if WE sp ≠ 0 then WE sp else FG (some who) (l.drop (0 + 1)) by rw [← hF.out, hS2.out]; rfl)
        clear hF hS2
        have hC := Lib.hid (fun q => hCw.out xA xn xc sp _ (hI2.drewN q))
        have zr := (blk_facts hbr2).1
        go_wp2_with fail
        go_quiet (fail)
        go_wp2_with fail
        refine (hC.out _).mono ?_; rintro e w3 ⟨rfl, B3⟩
        have hB3 := below_next (below_drewN hB2 _) B3
        have hBr3 := below_next (below_drewN hBr2 _) B3
        by_cases hx0 : WE sp = 0
        · have hR := Lib.hid (show FG (some who) (l.drop (0 + 1)) = FG none l by rw [hS3.out, if_neg (by simpa using hx0)])
          clear hS3 hC
          generalize WE sp = we at *
          subst hx0
          go_wp2
          go_roundw
          case rel => exact ⟨0 + 1, by omega, by go_num, hBr3, Lib.hid (by rw [hP.out, hR.out])⟩
          case measure => simp [intOf]; omega
        · have hR := Lib.hid (show FG none l = WE sp by rw [hS3.out, if_pos hx0])
          clear hS3 hC
          generalize WE sp = we at *
          have hx1 : (we != 0) = true := by simpa using hx0
          clear hx0
          go_wp2
          go_ret
          exact ⟨ret_i (by rw [hE2.out, if_neg hbig, hR.out]), hB3⟩
      · obtain ⟨b', off', y, hA', hbl', hy, d0, _, _⟩ := (h.below hB2).at2 (k := k - 1) (by omega)
        injection hA' with hA'
        injection hA' with e1 e2
        subst e1 e2
        have hPk : prevS l k = some y.who := by unfold prevS; rw [if_neg hk0, hy]; rfl
        have hS3 := Lib.hid (show FG none l = if leS who y.who = true then 7 else if WE sp ≠ 0 then WE sp else FG (some who) (l.drop (k + 1)) by rw [← hF.out, hS2.out, hPk]; rfl)
        have hL := Lib.hid (show leS who y.who = (Op.bytesLess who.toList y.who.toList || (who.toList == y.who.toList)) from rfl)
        clear hF hS2 hy hPk
        generalize y.who = yw at *
        have e2 : (0 : Int) ≤ (k : Int) - 1 := by omega
        have e4 : (k : Int) - 1 < n := by omega
        have e1 : IntKind.i64.wrap ((k : Int) - 1) = (k : Int) - 1 := IntWalk.i64_in _ (by omega)
        have e3 : ((k : Int) - 1).toNat = k - 1 := by omega
        have e6 : 0 < k := by omega
        have e9 : (1 : Int) ≤ (k : Int) := by omega
        have e10 : (k : Int) ≤ n := by omega
        have e11 : (k : Int) < n := by omega
        have e7 : decide (0 < k) = true := decide_eq_true e6
        have e8 : decide ((0 : Int) < (k : Int)) = true := decide_eq_true (by omega)
        have hC := Lib.hid (fun q => hCw.out xA xn xc sp _ (hI2.drewN q))
        have zr := (blk_facts hbr2).1
        go_wp2_with fail
        go_quiet (fail)
        rw [← hL.out]
        clear e1 e2 e3 e4 e6 e7 e8 e9 e10 e11
        generalize leS who yw = q at *
        cases q
        rotate_left
        · have hR := Lib.hid (show FG none l = 7 by rw [hS3.out]; rfl)
          clear hS3
          go_wp2
          go_ret
          exact ⟨ret_i (by rw [hE2.out, if_neg hbig, hR.out]), below_drewN hB2 _⟩
        have hS4 := Lib.hid (show FG none l = if WE sp ≠ 0 then WE sp else FG (some who) (l.drop (k + 1)) by rw [hS3.out]; rfl)
        clear hS3 hL
        go_wp2_with fail
        refine (hC.out _).mono ?_; rintro e w3 ⟨rfl, B3⟩
        have hB3 := below_next (below_drewN hB2 _) B3
        have hBr3 := below_next (below_drewN hBr2 _) B3
        by_cases hx0 : WE sp = 0
        · have hR := Lib.hid (show FG (some who) (l.drop (k + 1)) = FG none l by rw [hS4.out, if_neg (by simpa using hx0)])
          clear hS4 hC
          generalize WE sp = we at *
          subst hx0
          go_wp2
          go_roundw
          case rel => exact ⟨k + 1, by omega, by go_num, hBr3, Lib.hid (by rw [hP.out, hR.out])⟩
          case measure => simp [intOf]; omega
        · have hR := Lib.hid (show FG none l = WE sp by rw [hS4.out, if_pos hx0])
          clear hS4 hC
          generalize WE sp = we at *
          have hx1 : (we != 0) = true := by simpa using hx0
          clear hx0
          go_wp2
          go_ret
          exact ⟨ret_i (by rw [hE2.out, if_neg hbig, hR.out]), hB3⟩
    · have hS : Hid (FG none l = 0) := Lib.hid (by rw [← hF.out, drop_end (by rw [h.len]; omega), hG0.out])
      go_wp2
      go_ret
      exact ⟨ret_i (by rw [hE2.out, if_neg hbig, hS.out]), hBw⟩
end Go.Proofs.YtamcmehmcbjgjaaGreatDoor

/- Fields of swimmers: the reference's check. -/
namespace Go.Proofs.YtamcmehmcbjgjaaGreatDoor
open Go.RowKit
set_option linter.unusedVariables false

theorem knownW_c (r : Race) (A : Option Addr) (n c : Nat) (l : List Int) (w : World) (h : RI 3 w A n l) (h0 : raceErr r = 0) :
    Calls Tryz.prog 99 #[r.val, .slice A n c] w fun e w' => e = .returned (.int .i64 (wholeErr r l)) ∧ Below w.heap.size w w' :=
  (knownFault_c r A n c l w h h0).mono fun e w' ⟨he, hb⟩ => ⟨by rw [he]; unfold wholeErr; rw [if_neg (by simpa using h0)], hb⟩
set_option maxHeartbeats 6400000 in
set_option maxRecDepth 100000 in
theorem fieldFault_c (r : Race) (A : Option Addr) (n c : Nat) (l : List Sw) (w : World) (h : RSw w A n l) (h0 : raceErr r = 0) :
    Calls Tryz.prog 42 #[r.val, .slice A n c] w fun e w' => e = .returned (.int .i64 (fieldErr r l)) ∧ Below w.heap.size w w' := by
  have hl := h.len
  have hbd := h.bd
  have hE : fieldErr r l = if raceErr r ≠ 0 then raceErr r else if 20 < n then 2 else fieldGo r none l := by unfold fieldErr; rw [hl]
  have hCw := Lib.hid (fun A n c l W h => knownW_c r A n c l W h h0)
  have hGa := Lib.hid (fun k x p (h : l[k]? = some x) => fieldGo_at (r := r) p h)
  have hG0 := Lib.hid (show ∀ p, fieldGo r p [] = 0 from fun p => rfl)
  generalize fieldErr r l = E at *
  generalize wholeErr r = WE at *
  generalize fieldGo r = FG at *
  generalize raceErr r = RE at *
  have hE' := Lib.hid hE
  clear hE hl
  obtain ⟨key, metres, stroke, course, legs, sex, young, old⟩ := r
  dsimp only [Race.val, Race.cells] at *
  have hb := heap_alloc_new w (.cells #[.string key, .int .i64 metres, .int .i64 stroke, .int .i64 course, .int .i64 legs, .int .i64 sex, .int .i64 young, .int .i64 old] 27)
  have hE2 := Lib.hid (show E = if 20 < n then 2 else FG none l by rw [hE'.out, if_neg (by simpa using h0)])
  clear hE' h0
  have hB := below_new w (.cells #[.string key, .int .i64 metres, .int .i64 stroke, .int .i64 course, .int .i64 legs, .int .i64 sex, .int .i64 young, .int .i64 old] 27)
  generalize hw1 : w.alloc (.cells #[.string key, .int .i64 metres, .int .i64 stroke, .int .i64 course, .int .i64 legs, .int .i64 sex, .int .i64 young, .int .i64 old] 27) = w1 at *
  go_enter Tryz.func42, Tryz.ntmps42
  by_cases hbig : 20 < n
  · go_wp2
    go_ret
    exact ⟨ret_i (by rw [hE2.out, if_pos hbig]), hB⟩
  go_wp2
  clear hw1
  go_loopw [13] (fun i wr => ∃ k : Nat, k ≤ n ∧ i = .int .i64 k ∧ Below w1.heap.size w1 wr ∧ Hid (FG (prevS l k) (l.drop k) = FG none l)) (fun i _ => n - (intOf i).toNat)
  case atStart => exact ⟨0, Nat.zero_le _, rfl, Below.refl _ _, Lib.hid rfl⟩
  case round =>
    obtain ⟨k, hk, rfl, hBr, hF⟩ := hrel
    have hBw := below_next hB hBr
    by_cases hlt : k < n
    · obtain ⟨b, off, x, rfl, hbl, hx, c0, c1, hI⟩ := (h.below hBw).at2 hlt
      have hS := Lib.hid (hGa.out k x (prevS l k) hx)
      have hP := Lib.hid (prevS_succ hx)
      have hbr := blk_below hb hBr
      obtain ⟨who, xA, xn, xc, sp⟩ := x
      dsimp only at *
      clear hx
      go_wp2_with fail
      refine (key_c who _).mono ?_; rintro e w2 ⟨rfl, B2⟩
      have hbox := blk_below (heap_alloc_new wr _) B2
      have hbr2 := blk_below (blk_alloc hbr _) B2
      have hI2 := (hI.alloc _).below B2
      have hB2 := below_nextBox hBw B2
      have hBr2 := below_nextBox hBr B2
      clear c0 c1 hI
      cases hkb : keyB who
      · have hR := Lib.hid (show FG none l = 5 by rw [← hF.out, hS.out, if_pos hkb])
        clear hkb
        go_wp2
        go_ret
        exact ⟨ret_i (by rw [hE2.out, if_neg hbig, hR.out]), hB2⟩
      have hS2 := Lib.hid (show FG (prevS l k) (l.drop k) = if leO who (prevS l k) = true then 7 else if WE sp ≠ 0 then WE sp else FG (some who) (l.drop (k + 1)) by rw [hS.out, if_neg (by simp [hkb])])
      clear hS hkb
      have zx := (blk_facts hbox).1 0
      have zy := (blk_facts hbox).1 1
      have hlt2 := lt_of_heap hbox
      by_cases hk0 : k = 0
      · subst hk0
        have hS3 := Lib.hid (show FG none l = if WE sp ≠ 0 then WE sp else FG (some who) (l.drop (0 + 1)) by rw [← hF.out, hS2.out]; rfl)
        clear hF hS2
        have hC := Lib.hid (fun q => hCw.out xA xn xc sp _ (hI2.drewN q))
        have zr := (blk_facts hbr2).1
        go_wp2_with fail
        go_quiet (fail)
        go_wp2_with fail
        refine (hC.out _).mono ?_; rintro e w3 ⟨rfl, B3⟩
        have hB3 := below_next (below_drewN hB2 _) B3
        have hBr3 := below_next (below_drewN hBr2 _) B3
        by_cases hx0 : WE sp = 0
        · have hR := Lib.hid (show FG (some who) (l.drop (0 + 1)) = FG none l by rw [hS3.out, if_neg (by simpa using hx0)])
          clear hS3 hC
          generalize WE sp = we at *
          subst hx0
          go_wp2
          go_roundw
          case rel => exact ⟨0 + 1, by omega, by go_num, hBr3, Lib.hid (by rw [hP.out, hR.out])⟩
          case measure => simp [intOf]; omega
        · have hR := Lib.hid (show FG none l = WE sp by rw [hS3.out, if_pos hx0])
          clear hS3 hC
          generalize WE sp = we at *
          have hx1 : (we != 0) = true := by simpa using hx0
          clear hx0
          go_wp2
          go_ret
          exact ⟨ret_i (by rw [hE2.out, if_neg hbig, hR.out]), hB3⟩
      · obtain ⟨b', off', y, hA', hbl', hy, d0, _, _⟩ := (h.below hB2).at2 (k := k - 1) (by omega)
        injection hA' with hA'
        injection hA' with e1 e2
        subst e1 e2
        have hPk : prevS l k = some y.who := by unfold prevS; rw [if_neg hk0, hy]; rfl
        have hS3 := Lib.hid (show FG none l = if leS who y.who = true then 7 else if WE sp ≠ 0 then WE sp else FG (some who) (l.drop (k + 1)) by rw [← hF.out, hS2.out, hPk]; rfl)
        have hL := Lib.hid (show leS who y.who = (Op.bytesLess who.toList y.who.toList || (who.toList == y.who.toList)) from rfl)
        clear hF hS2 hy hPk
        generalize y.who = yw at *
        have e2 : (0 : Int) ≤ (k : Int) - 1 := by omega
        have e4 : (k : Int) - 1 < n := by omega
        have e1 : IntKind.i64.wrap ((k : Int) - 1) = (k : Int) - 1 := IntWalk.i64_in _ (by omega)
        have e3 : ((k : Int) - 1).toNat = k - 1 := by omega
        have e6 : 0 < k := by omega
        have e9 : (1 : Int) ≤ (k : Int) := by omega
        have e10 : (k : Int) ≤ n := by omega
        have e11 : (k : Int) < n := by omega
        have e7 : decide (0 < k) = true := decide_eq_true e6
        have e8 : decide ((0 : Int) < (k : Int)) = true := decide_eq_true (by omega)
        have hC := Lib.hid (fun q => hCw.out xA xn xc sp _ (hI2.drewN q))
        have zr := (blk_facts hbr2).1
        go_wp2_with fail
        go_quiet (fail)
        rw [← hL.out]
        clear e1 e2 e3 e4 e6 e7 e8 e9 e10 e11
        generalize leS who yw = q at *
        cases q
        rotate_left
        · have hR := Lib.hid (show FG none l = 7 by rw [hS3.out]; rfl)
          clear hS3
          go_wp2
          go_ret
          exact ⟨ret_i (by rw [hE2.out, if_neg hbig, hR.out]), below_drewN hB2 _⟩
        have hS4 := Lib.hid (show FG none l = if WE sp ≠ 0 then WE sp else FG (some who) (l.drop (k + 1)) by rw [hS3.out]; rfl)
        clear hS3 hL
        go_wp2_with fail
        refine (hC.out _).mono ?_; rintro e w3 ⟨rfl, B3⟩
        have hB3 := below_next (below_drewN hB2 _) B3
        have hBr3 := below_next (below_drewN hBr2 _) B3
        by_cases hx0 : WE sp = 0
        · have hR := Lib.hid (show FG (some who) (l.drop (k + 1)) = FG none l by rw [hS4.out, if_neg (by simpa using hx0)])
          clear hS4 hC
          generalize WE sp = we at *
          subst hx0
          go_wp2
          go_roundw
          case rel => exact ⟨k + 1, by omega, by go_num, hBr3, Lib.hid (by rw [hP.out, hR.out])⟩
          case measure => simp [intOf]; omega
        · have hR := Lib.hid (show FG none l = WE sp by rw [hS4.out, if_pos hx0])
          clear hS4 hC
          generalize WE sp = we at *
          have hx1 : (we != 0) = true := by simpa using hx0
          clear hx0
          go_wp2
          go_ret
          exact ⟨ret_i (by rw [hE2.out, if_neg hbig, hR.out]), hB3⟩
    · have hS : Hid (FG none l = 0) := Lib.hid (by rw [← hF.out, drop_end (by rw [h.len]; omega), hG0.out])
      go_wp2
      go_ret
      exact ⟨ret_i (by rw [hE2.out, if_neg hbig, hS.out]), hBw⟩
end Go.Proofs.YtamcmehmcbjgjaaGreatDoor

/- How many hundredths all were before a line: the reference's and the program's. -/
namespace Go.Proofs.YtamcmehmcbjgjaaGreatDoor
open Go.RowKit
set_option linter.unusedVariables false

def aheadL (t : Int) (l : List Sw) : List Pr := l.map fun x => ⟨x.who, itoaS (t - x.sp.getLastD 0)⟩
theorem aheadL_at {t : Int} {l : List Sw} {k : Nat} {x : Sw} (h : l[k]? = some x) : aheadL t (l.drop k) = ⟨x.who, itoaS (t - x.sp.getLastD 0)⟩ :: aheadL t (l.drop (k + 1)) := by rw [drop_at h]; rfl
end Go.Proofs.YtamcmehmcbjgjaaGreatDoor

/- How many hundredths all were before a line: the program's. -/
namespace Go.Proofs.YtamcmehmcbjgjaaGreatDoor
open Go.RowKit
set_option linter.unusedVariables false

theorem fieldGo_mem {r : Race} : ∀ {l : List Sw} {p : Option ByteArray}, fieldGo r p l = 0 → ∀ x ∈ l, wholeErr r x.sp = 0
  | [], _, _, x, h => by simp at h
  | y :: l, p, h0, x, h => by
    unfold fieldGo at h0
    split at h0
    · cases h0
    · split at h0
      · cases h0
      · split at h0
        · rename_i h1; exact absurd h0 h1
        · rename_i h1
          rcases List.mem_cons.mp h with rfl | h
          · omega
          · exact fieldGo_mem h0 x h
theorem fieldErr_ok {r : Race} {l : List Sw} (h : fieldErr r l = 0) : raceErr r = 0 ∧ l.length ≤ 20 ∧ ∀ x ∈ l, wholeErr r x.sp = 0 := by
  unfold fieldErr at h
  split at h
  · rename_i h1; exact absurd h h1
  · split at h
    · cases h
    · exact ⟨by omega, by omega, fieldGo_mem h⟩
theorem whole_len {r : Race} {l : List Int} (h : wholeErr r l = 0) : (l.length : Int) = lenV r := (splitsErr_ok (wholeErr_ok h).2.2.2.1).1
def aheadE (r : Race) (l : List Sw) (sp : List Int) : Int := if fieldErr r l ≠ 0 then fieldErr r l else wholeErr r sp
end Go.Proofs.YtamcmehmcbjgjaaGreatDoor

/- api.Gap as data; slices.Equal over it. -/
namespace Go.Proofs.YtamcmehmcbjgjaaGreatDoor
open Go.RowKit
set_option linter.unusedVariables false

theorem str_neGp {a b : ByteArray} (h : a ≠ b) : (a.toList == b.toList) = false := by
  rw [beq_eq_false_iff_ne, ByteArray.toList_eq, ByteArray.toList_eq]
  intro e
  exact h (by cases a; cases b; congr 1; exact Array.toList_inj.mp e)
structure Gp where
  who : ByteArray
  length : Int
  behind : Int
deriving DecidableEq
def gpE (p : Gp) : List Value := [.string p.who, .int .i64 p.length, .int .i64 p.behind]
theorem gpE_len : ∀ x, (gpE x).length = 3 := fun _ => rfl
end Go.Proofs.YtamcmehmcbjgjaaGreatDoor

/- Best laps, plain: column by column (the reference), swim by swim (the program). -/
namespace Go.Proofs.YtamcmehmcbjgjaaGreatDoor
open Go.RowKit
set_option linter.unusedVariables false

def stepG (g : Gp) (who : ByteArray) (lap : Int) : Gp := if lap < g.behind then ⟨who, g.length, lap⟩ else g
/-- column j over the swims l, from g -/
def colG (j : Nat) (g : Gp) : List Sw → Gp
  | [] => g
  | x :: r => colG j (stepG g x.who ((lapsL x.sp).getD j 0)) r
theorem colG_snoc (j : Nat) (g : Gp) (l : List Sw) (x : Sw) : colG j g (l ++ [x]) = stepG (colG j g l) x.who ((lapsL x.sp).getD j 0) := by
  induction l generalizing g with
  | nil => rfl
  | cons y r ih => exact ih _
def zeroG (j : Nat) : Gp := ⟨⟨#[]⟩, (j : Int) + 1, 360001⟩
def bestL (m : Nat) (l : List Sw) : List Gp := (List.range m).map fun j => colG j (zeroG j) l
theorem bestL_len (m : Nat) (l : List Sw) : (bestL m l).length = m := by simp [bestL]
theorem bestL_at {m j : Nat} (h : j < m) (l : List Sw) : (bestL m l)[j]? = some (colG j (zeroG j) l) := by simp [bestL, h]
/-- the program's row while swim x is under way: the first j columns have seen it -/
def bestW (m j : Nat) (l : List Sw) (x : Sw) : List Gp := (bestL m (l ++ [x])).take j ++ (bestL m l).drop j
theorem bestW_zero (m : Nat) (l : List Sw) (x : Sw) : bestW m 0 l x = bestL m l := by simp [bestW]
theorem bestW_end (m : Nat) (l : List Sw) (x : Sw) : bestW m m l x = bestL m (l ++ [x]) := by
  unfold bestW; rw [List.take_of_length_le (by simp [bestL_len]), List.drop_of_length_le (by simp [bestL_len]), List.append_nil]
theorem bestW_succ {m j : Nat} (h : j < m) (l : List Sw) (x : Sw) : bestW m (j + 1) l x = (bestW m j l x).set j (stepG (colG j (zeroG j) l) x.who ((lapsL x.sp).getD j 0)) := by
  unfold bestW
  have h1 := bestL_at h (l ++ [x])
  have h2 := bestL_at h l
  rw [colG_snoc] at h1
  have h3 : ((bestL m (l ++ [x])).take j).length = j := by rw [List.length_take, bestL_len]; omega
  rw [List.take_add_one, h1, drop_at h2, List.set_append_right _ _ (by omega), h3]
  simp
theorem bestW_at {m j : Nat} (h : j < m) (l : List Sw) (x : Sw) : (bestW m j l x)[j]? = some (colG j (zeroG j) l) := by
  unfold bestW
  have h3 : ((bestL m (l ++ [x])).take j).length = j := by rw [List.length_take, bestL_len]; omega
  rw [List.getElem?_append_right (by omega), h3, Nat.sub_self, List.getElem?_drop, Nat.add_zero, bestL_at h]
/-- the first swim: the program takes its laps as they are -/
theorem best_first {j : Nat} {x : Sw} (h : (lapsL x.sp).getD j 0 ≤ 360000) : colG j (zeroG j) [x] = ⟨x.who, (j : Int) + 1, (lapsL x.sp).getD j 0⟩ := by
  show stepG (zeroG j) x.who _ = _
  unfold stepG zeroG
  rw [if_pos (by show _ < (360001 : Int); omega)]
def sumG : List Gp → Int
  | [] => 0
  | g :: r => g.behind + sumG r
end Go.Proofs.YtamcmehmcbjgjaaGreatDoor

/- The reference's BestLaps. (UNDER WAY) -/
namespace Go.Proofs.YtamcmehmcbjgjaaGreatDoor
open Go.RowKit
set_option linter.unusedVariables false

end Go.Proofs.YtamcmehmcbjgjaaGreatDoor
