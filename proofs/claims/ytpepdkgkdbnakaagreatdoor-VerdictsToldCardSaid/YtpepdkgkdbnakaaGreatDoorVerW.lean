import Derived.Test.YtpepdkgkdbnakaaGreatDoorVerU
import Derived.Test.YtpepdkgkdbnakaaGreatDoorVerE
/- tumbref1.protested, judge.granted, the closures of judge.Final, judge.checkClaimed. -/
namespace Go.Proofs.YtpepdkgkdbnakaaGreatDoor
open Go.RowKit Go.Shelf Go.Lib Go.Sort
set_option linter.unusedVariables false

def nevG : Int → Bool := fun _ => false
theorem lastGo_in (who : ByteArray) (f at_ : Int) (P : Rp → Prop) : ∀ (l : List Rp) (best : Rp), P best → (∀ x ∈ l, P x) → P (lastGo who f at_ best l)
  | [], _, h, _ => h
  | x :: r, best, h, hl => by
    unfold lastGo
    refine lastGo_in who f at_ P r _ ?_ (fun y hy => hl y (List.mem_cons_of_mem _ hy))
    split
    · exact hl x (List.mem_cons_self ..)
    · exact h
theorem last_tm {l : List Rp} (hl : ∀ x ∈ l, 0 ≤ x.tm ∧ x.tm ≤ 345686399999) (who : ByteArray) (f at_ : Int) : 0 ≤ (lastV l who f at_).tm ∧ (lastV l who f at_).tm ≤ 345686399999 :=
  lastGo_in who f at_ (fun x => 0 ≤ x.tm ∧ x.tm ≤ 345686399999) l rp0 (by decide) hl
theorem tmV_bd {l : List Rp} (hl : ∀ x ∈ l, 0 ≤ x.tm ∧ x.tm ≤ 345686399999) (who : ByteArray) (at_ F : Int) : 0 ≤ tmV l who at_ F ∧ tmV l who at_ F ≤ 345686399999 := by
  unfold tmV
  split
  · decide
  · exact last_tm hl who F at_
theorem fltV_bd (l : List Rp) (who : ByteArray) (at_ : Int) (gone : Int → Bool) : 0 ≤ fltV l who at_ gone ∧ fltV l who at_ gone ≤ 8 := by
  rcases vdF_bd (pV l who at_ gone) 8 1 (by decide) with h | h
  · have : fltV l who at_ gone = 0 := h
    omega
  · have h2 : 1 ≤ fltV l who at_ gone ∧ fltV l who at_ gone < 1 + (8 : Nat) := h
    omega
/-- the fault against which one can protest, and since when -/
def prV (l : List Rp) (who : ByteArray) (at_ : Int) : Int × Int :=
  if fltV l who at_ nevG = 0 then (0, 0) else if 1800000 < at_ - (lastV l who (fltV l who at_ nevG) at_).tm then (0, 0) else (fltV l who at_ nevG, (lastV l who (fltV l who at_ nevG) at_).tm)
set_option maxHeartbeats 1600000 in
set_option maxRecDepth 100000 in
theorem protested_c (A : Option Addr) (n c : Nat) (l : List Rp) (who : ByteArray) (at_ : Int) (w : World) (h : RRp w A n l) (hn : n ≤ 1000) (hw : ∀ x ∈ l, 1 ≤ x.wt) (ht : ∀ x ∈ l, 0 ≤ x.tm ∧ x.tm ≤ 345686399999) (ha : 0 ≤ at_ ∧ at_ ≤ 345686399999) :
    Calls Tryz.prog 146 #[.slice A n c, .string who, .int .i64 at_] w fun e w' => e = .returned (.tuple #[.int .i64 (prV l who at_).1, .int .i64 (prV l who at_).2]) ∧ Below w.heap.size w w' := by
  have hV := Lib.hid (show Calls Tryz.prog 137 #[.slice A n c, .string who, .int .i64 at_, .slice none 0 0] w (RetVr w who (fltV l who at_ nevG) (idsV l who at_ (fltV l who at_ nevG))) from verdictOf_c A n c l who at_ none 0 0 [] w h hn hw (R1.nil_ _ _ _ _))
  have hS := Lib.hid (fun f W (B : Below w.heap.size w W) => standsR_c A n c l who f at_ W (h.below B) hn hw)
  have hP := Lib.hid (show prV l who at_ = if fltV l who at_ nevG = 0 then (0, 0) else if 1800000 < at_ - (lastV l who (fltV l who at_ nevG) at_).tm then (0, 0) else (fltV l who at_ nevG, (lastV l who (fltV l who at_ nevG) at_).tm) from rfl)
  generalize prV l who at_ = PR at *
  generalize fltV l who at_ nevG = F at *
  have hS1 := Lib.hid (hS.out F)
  have htm := last_tm ht who F at_
  generalize stB l who F at_ = sb at *
  generalize (lastV l who F at_).tm = T at *
  generalize idsV l who at_ F = ids at *
  clear hS h hw ht
  have hfd : ∀ W (u : Value), (Instr.field 69 (.agg #[.string who, .int .i64 F, u]) 1).run Tryz.prog W = .ok (.int .i64 F) W := fun _ _ => by kernel_rfl
  go_enter Tryz.func146, Tryz.ntmps146
  go_wp2_with fail
  refine hV.out.mono ?_; rintro e w1 ⟨A1, c1, rfl, r1, _, B1⟩
  clear r1
  generalize ids.length = m at *
  by_cases h0 : F = 0
  · subst h0
    obtain rfl : PR = (0, 0) := by rw [hP.out, if_pos rfl]
    clear hP
    go_wp2
    go_ret2
    exact ⟨rfl, B1⟩
  · have hd : (F == 0) = false := beq_eq_false_iff_ne.2 h0
    have hP2 := Lib.hid (hP.out.trans (if_neg h0))
    clear hP h0
    have u1 : IntKind.i64.wrap (at_ - T) = at_ - T := IntWalk.i64_in _ (by omega)
    go_wp2_with fail
    refine (hS1.out _ B1).mono ?_; rintro e w2 ⟨rfl, B2⟩
    have hB2 := below_next B1 B2
    by_cases h1 : 1800000 < at_ - T
    · have hd1 : decide (1800000 < at_ - T) = true := decide_eq_true h1
      obtain rfl : PR = (0, 0) := by rw [hP2.out, if_pos h1]
      clear hP2 h1
      go_wp2
      go_ret2
      exact ⟨rfl, hB2⟩
    · have hd1 : decide (1800000 < at_ - T) = false := decide_eq_false h1
      obtain rfl : PR = (F, T) := by rw [hP2.out, if_neg h1]
      clear hP2 h1
      go_wp2
      go_ret2
      exact ⟨rfl, hB2⟩
/-- a claim takes a fault away -/
def grB (l : List Rp) (f at_ : Int) (x : Cm) : Bool := x.gr && (decide (x.tm ≤ at_) && (decide (fltV l x.who x.tm nevG = f) && (decide (x.tm - tmV l x.who x.tm (fltV l x.who x.tm nevG) ≤ 1800000) && !(l.any (agB x.who f x.tm at_)))))
set_option maxHeartbeats 3200000 in
set_option maxRecDepth 100000 in
theorem granted_c (A : Option Addr) (n c : Nat) (l : List Rp) (x : Cm) (f at_ : Int) (w : World) (h : RRp w A n l) (hn : n ≤ 1000) (ht : ∀ x ∈ l, 0 ≤ x.tm ∧ x.tm ≤ 345686399999) (hx : 0 ≤ x.tm ∧ x.tm ≤ 345686399999) :
    Calls Tryz.prog 143 #[.slice A n c, .agg (cmE x).toArray, .int .i64 f, .int .i64 at_] w fun e w' => e = .returned (.bool (grB l f at_ x)) ∧ Below w.heap.size w w' := by
  obtain ⟨xw, xt, xg⟩ := x
  dsimp only at hx
  have hG := Lib.hid (show grB l f at_ ⟨xw, xt, xg⟩ = (xg && (decide (xt ≤ at_) && (decide (fltV l xw xt nevG = f) && (decide (xt - tmV l xw xt (fltV l xw xt nevG) ≤ 1800000) && !(l.any (agB xw f xt at_)))))) from rfl)
  generalize grB l f at_ ⟨xw, xt, xg⟩ = R at *
  have hV := Lib.hid (fun W (B : Below w.heap.size w W) => show Calls Tryz.prog 134 #[.slice A n c, .string xw, .int .i64 xt, .func (.func 135) #[] #[]] W (RetVd W xw (fltV l xw xt nevG) (idsV l xw xt (fltV l xw xt nevG)) (tmV l xw xt (fltV l xw xt nevG))) from verdictN_c A n c l xw xt nevG W (h.below B) (by omega) (fun j W2 _ _ => never_c _ W2))
  have htm := tmV_bd ht xw xt (fltV l xw xt nevG)
  have hB0 := below_next (below_next (below_new w (.cells #[.string xw, .int .i64 xt, .bool xg] 79)) (below_new _ (.cells #[.int .i64 f] 3))) (below_new _ (.cells #[.int .i64 at_] 3))
  have hb1 := blk_alloc (blk_alloc (heap_alloc_new w (.cells #[.string xw, .int .i64 xt, .bool xg] 79)) (.cells #[.int .i64 f] 3)) (.cells #[.int .i64 at_] 3)
  have hz1 : (w.alloc (.cells #[.string xw, .int .i64 xt, .bool xg] 79)).heap.size = w.heap.size + 1 := by simp
  have hz2 : ((w.alloc (.cells #[.string xw, .int .i64 xt, .bool xg] 79)).alloc (.cells #[.int .i64 f] 3)).heap.size = w.heap.size + 1 + 1 := by simp
  have hb2 := blk_alloc (hz1 ▸ heap_alloc_new (w.alloc (.cells #[.string xw, .int .i64 xt, .bool xg] 79)) (.cells #[.int .i64 f] 3)) (.cells #[.int .i64 at_] 3)
  have hb3 := hz2 ▸ heap_alloc_new ((w.alloc (.cells #[.string xw, .int .i64 xt, .bool xg] 79)).alloc (.cells #[.int .i64 f] 3)) (.cells #[.int .i64 at_] 3)
  have hR := Lib.hid (fun W B => h.below (w' := W) B)
  dsimp only [cmE] at *
  clear h ht hz1 hz2
  have x0 := (blk_facts hb1).1 0
  have x1 := (blk_facts hb1).1 1
  have x2 := (blk_facts hb1).1 2
  have y0 := (blk_facts hb2).1 0
  have z0 := (blk_facts hb3).1 0
  cases xg
  · obtain rfl : R = false := by rw [hG.out]; rfl
    clear hG
    go_enter Tryz.func143, Tryz.ntmps143
    go_wp2
    go_ret
    exact ⟨rfl, hB0⟩
  by_cases e1 : xt ≤ at_
  rotate_left
  · have hd : decide (at_ < xt) = true := decide_eq_true (by omega)
    obtain rfl : R = false := by rw [hG.out]; simp [e1]
    clear hG e1
    go_enter Tryz.func143, Tryz.ntmps143
    go_wp2
    go_ret
    exact ⟨rfl, hB0⟩
  have hd : decide (at_ < xt) = false := decide_eq_false (by omega)
  have hG2 := Lib.hid (show R = (decide (fltV l xw xt nevG = f) && (decide (xt - tmV l xw xt (fltV l xw xt nevG) ≤ 1800000) && !(l.any (agB xw f xt at_)))) by rw [hG.out, decide_eq_true e1]; rfl)
  clear hG e1
  have hV1 := Lib.hid (hV.out _ hB0)
  generalize tmV l xw xt (fltV l xw xt nevG) = T at *
  generalize idsV l xw xt (fltV l xw xt nevG) = ids at *
  generalize fltV l xw xt nevG = F at *
  clear hV
  have hV1' := Lib.hid hV1.out
  have u1 : IntKind.i64.wrap (xt - T) = xt - T := IntWalk.i64_in _ (by omega)
  go_enter Tryz.func143, Tryz.ntmps143
  go_wp2_with fail
  refine hV1'.out.mono ?_; rintro e w4 ⟨A4, c4, rfl, r4, _, B4⟩
  have hB4 := below_next hB0 B4
  have q1 := blk_below hb1 B4
  have q2 := blk_below hb2 B4
  have q3 := blk_below hb3 B4
  have hn5 := heap_alloc_new w4 (.cells #[.string xw, .int .i64 F, .slice A4 ids.length c4] 69)
  have hBn := below_new w4 (.cells #[.string xw, .int .i64 F, .slice A4 ids.length c4] 69)
  have hB5 := below_next hB4 hBn
  have p1 := blk_below q1 hBn
  have p2 := blk_below q2 hBn
  have p3 := blk_below q3 hBn
  have v1 := (blk_facts hn5).1 1
  have s0 := (blk_facts p1).1 0
  have s1 := (blk_facts p1).1 1
  have s2 := (blk_facts p2).1 0
  clear x0 x1 x2 y0 z0 hb1 hb2 hb3 q1 q2 q3 r4 B4 hB4 hn5 hV1 hV1' hB0
  by_cases e2 : F = f
  rotate_left
  · have hd2 : (F != f) = true := by simpa using e2
    obtain rfl : R = false := by rw [hG2.out]; simp [e2]
    clear hG2 e2
    go_wp2
    go_ret
    exact ⟨rfl, hB5⟩
  have hd2 : (F != f) = false := by simp [bne, e2]
  by_cases e3 : xt - T ≤ 1800000
  rotate_left
  · have hd3 : decide (1800000 < xt - T) = true := decide_eq_true (by omega)
    obtain rfl : R = false := by rw [hG2.out]; simp [e3]
    clear hG2 e2 e3
    go_wp2
    go_ret
    exact ⟨rfl, hB5⟩
  have hd3 : decide (1800000 < xt - T) = false := decide_eq_false (by omega)
  have hG3 := Lib.hid (show R = !(l.any (agB xw f xt at_)) by rw [hG2.out, decide_eq_true e2, decide_eq_true e3]; rfl)
  clear hG2 e2 e3
  have hH := Lib.hid (hasGr_c (agB xw f xt at_) w.heap.size (w.heap.size + 1) (w.heap.size + 1 + 1) A n c l _ (hR.out _ hB5) (fun y _ W B => grantC_c _ _ _ xw true f xt at_ y W (blk_below p1 B) (blk_below p2 B) (blk_below p3 B)))
  generalize l.any (agB xw f xt at_) = ab at *
  clear p1 p2 p3 hBn
  go_wp2_with fail
  refine hH.out.mono ?_; rintro e w6 ⟨rfl, B6⟩
  have hB6 := below_next hB5 B6
  clear hH B6 v1 s0 s1 s2
  go_wp2
  go_ret
  exact ⟨by rw [hG3.out]; rfl, hB6⟩
/-- the closure of Final -/
def fiB (l : List Rp) (who : ByteArray) (f at_ : Int) (x : Cm) : Bool := decide (x.who = who) && grB l f at_ x
set_option maxHeartbeats 1600000 in
set_option maxRecDepth 100000 in
theorem fin11_c (p1 p2 p3 p4 : Nat) (A : Option Addr) (n c : Nat) (l : List Rp) (who : ByteArray) (f at_ : Int) (x : Cm) (w : World) (h : RRp w A n l) (hn : n ≤ 1000) (ht : ∀ x ∈ l, 0 ≤ x.tm ∧ x.tm ≤ 345686399999) (hx : 0 ≤ x.tm ∧ x.tm ≤ 345686399999)
    (h1 : w.heap[p1]? = some (.cells #[.string who] 9 (0, 0))) (h2 : w.heap[p2]? = some (.cells #[.slice A n c] 55 (0, 0))) (h3 : w.heap[p3]? = some (.cells #[.int .i64 f] 3 (0, 0))) (h4 : w.heap[p4]? = some (.cells #[.int .i64 at_] 3 (0, 0))) :
    Calls Tryz.prog 142 #[.agg (cmE x).toArray, .pointer (some ⟨p1, 0, none⟩), .pointer (some ⟨p2, 0, none⟩), .pointer (some ⟨p3, 0, none⟩), .pointer (some ⟨p4, 0, none⟩)] w fun e w' => e = .returned (.bool (fiB l who f at_ x)) ∧ Below w.heap.size w w' := by
  have hBn := below_new w (.cells (cmE x).toArray 79)
  have hn0 := heap_alloc_new w (.cells (cmE x).toArray 79)
  have hG := Lib.hid (granted_c A n c l x f at_ _ (h.below hBn) hn ht hx)
  have hA := Lib.hid (show fiB l who f at_ x = (decide (x.who = who) && grB l f at_ x) from rfl)
  generalize fiB l who f at_ x = R at *
  generalize grB l f at_ x = gb at *
  obtain ⟨xw, xt, xg⟩ := x
  dsimp only [cmE] at *
  have a1 := (blk_facts (blk_below h1 hBn)).1 0
  have a2 := (blk_facts (blk_below h2 hBn)).1 0
  have a3 := (blk_facts (blk_below h3 hBn)).1 0
  have a4 := (blk_facts (blk_below h4 hBn)).1 0
  have x0 := (blk_facts hn0).1 0
  have x1 := (blk_facts hn0).1 1
  have x2 := (blk_facts hn0).1 2
  have hl1 := lt_of_heap h1
  have hl2 := lt_of_heap h2
  have hl3 := lt_of_heap h3
  have hl4 := lt_of_heap h4
  clear h h1 h2 h3 h4 hn0
  by_cases e1 : xw = who
  · have b1 : (xw.toList == who.toList) = true := by rw [e1]; exact beq_self_eq_true _
    obtain rfl : R = gb := by rw [hA.out]; simp [e1]
    clear hA e1
    go_enter Tryz.func142, Tryz.ntmps142
    go_wp2_with fail
    refine hG.out.mono ?_; rintro e w2 ⟨rfl, B2⟩
    have hB2 := below_next hBn B2
    go_wp2
    go_ret
    exact ⟨rfl, hB2⟩
  · have b1 := str_neV e1
    obtain rfl : R = false := by rw [hA.out]; simp [e1]
    clear hA e1
    go_enter Tryz.func142, Tryz.ntmps142
    go_wp2
    go_ret
    exact ⟨rfl, hBn⟩
def goneV (l : List Rp) (cl : List Cm) (at_ : Int) (who : ByteArray) (f : Int) : Bool := cl.any (fiB l who f at_)
set_option maxHeartbeats 1600000 in
set_option maxRecDepth 100000 in
theorem fin1_c (p1 p2 p3 p4 : Nat) (A : Option Addr) (n c : Nat) (l : List Rp) (Ac : Option Addr) (nc cc : Nat) (cl : List Cm) (who : ByteArray) (f at_ : Int) (w : World) (h : RRp w A n l) (hc : RCm w Ac nc cl) (hn : n ≤ 1000) (ht : ∀ x ∈ l, 0 ≤ x.tm ∧ x.tm ≤ 345686399999) (hx : ∀ x ∈ cl, 0 ≤ x.tm ∧ x.tm ≤ 345686399999)
    (h1 : w.heap[p1]? = some (.cells #[.slice Ac nc cc] 58 (0, 0))) (h2 : w.heap[p2]? = some (.cells #[.string who] 9 (0, 0))) (h3 : w.heap[p3]? = some (.cells #[.slice A n c] 55 (0, 0))) (h4 : w.heap[p4]? = some (.cells #[.int .i64 at_] 3 (0, 0))) :
    Calls Tryz.prog 141 #[.int .i64 f, .pointer (some ⟨p1, 0, none⟩), .pointer (some ⟨p2, 0, none⟩), .pointer (some ⟨p3, 0, none⟩), .pointer (some ⟨p4, 0, none⟩)] w fun e w' => e = .returned (.bool (goneV l cl at_ who f)) ∧ Below w.heap.size w w' := by
  have hBn := below_new w (.cells #[.int .i64 f] 3)
  have hn0 := heap_alloc_new w (.cells #[.int .i64 f] 3)
  have hH := Lib.hid (hasFi_c (fiB l who f at_) p2 p3 w.heap.size p4 Ac nc cc cl _ (hc.below hBn) (fun x hxm W B => fin11_c p2 p3 w.heap.size p4 A n c l who f at_ x W ((h.below hBn).below B) hn ht (hx x hxm) (blk_below (blk_below h2 hBn) B) (blk_below (blk_below h3 hBn) B) (blk_below hn0 B) (blk_below (blk_below h4 hBn) B)))
  have a1 := (blk_facts (blk_below h1 hBn)).1 0
  have hl1 := lt_of_heap h1
  have hA := Lib.hid (show goneV l cl at_ who f = cl.any (fiB l who f at_) from rfl)
  generalize goneV l cl at_ who f = R at *
  generalize cl.any (fiB l who f at_) = R2 at *
  obtain rfl : R = R2 := hA.out
  clear hA h hc h1 h2 h3 h4 hn0
  go_enter Tryz.func141, Tryz.ntmps141
  go_wp2_with fail
  refine hH.out.mono ?_; rintro e w2 ⟨rfl, B2⟩
  have hB2 := below_next hBn B2
  go_wp2
  go_ret
  exact ⟨rfl, hB2⟩
set_option maxRecDepth 100000 in
theorem checkClaimed_c (A : Option Addr) (n c : Nat) (l : List Rp) (Ac : Option Addr) (nc cc : Nat) (cl : List Cm) (at_ : Int) (w : World) (h : RRp w A n l) (hc : RCm w Ac nc cl) :
    Calls Tryz.prog 138 #[.slice A n c, .slice Ac nc cc, .int .i64 at_] w fun e w' => e = .returned (.int .i64 (if rpErr l ≠ 0 then rpErr l else if clmErr cl ≠ 0 then clmErr cl else if momB at_ = true then 0 else 1)) ∧ Below w.heap.size w w' := by
  have h1 := Lib.hid (checkReports_c A n c l w h)
  have h2 := Lib.hid (fun W (B : Below w.heap.size w W) => checkClaims_c Ac nc cc cl W (hc.below B))
  have hmb := Lib.hid (show momB at_ = decide (0 ≤ at_ ∧ at_ ≤ 345686399999) from rfl)
  obtain ⟨V, hV⟩ : ∃ V, (if rpErr l ≠ 0 then rpErr l else if clmErr cl ≠ 0 then clmErr cl else if momB at_ = true then (0 : Int) else 1) = V := ⟨_, rfl⟩
  rw [hV]
  have hV' := Lib.hid hV
  clear hV
  generalize rpErr l = E1 at *
  generalize clmErr cl = E2 at *
  generalize momB at_ = mb at *
  clear h hc
  go_enter Tryz.func138, Tryz.ntmps138
  go_wp2_with fail
  refine h1.out.mono ?_; rintro e w1 ⟨rfl, B1⟩
  by_cases e1 : E1 = 0
  rotate_left
  · have hd : (E1 != 0) = true := by simpa using e1
    have e1' := Lib.hid e1
    clear e1
    go_wp2
    go_ret
    exact ⟨ret_i (by rw [← hV'.out, if_pos e1'.out]), B1⟩
  subst e1
  go_wp2_with fail
  refine (h2.out _ B1).mono ?_; rintro e w2 ⟨rfl, B2⟩
  have hB2 := below_next B1 B2
  by_cases e2 : E2 = 0
  rotate_left
  · have hd : (E2 != 0) = true := by simpa using e2
    have e2' := Lib.hid e2
    clear e2
    go_wp2
    go_ret
    exact ⟨ret_i (by rw [← hV'.out, if_neg (by decide), if_pos e2'.out]), hB2⟩
  subst e2
  cases mb
  · go_wp2_with (go_at_call 132; refine (isMoment_c _ _).mono ?_; rintro e w' ⟨rfl, rfl⟩; rw [← hmb.out])
    go_ret
    exact ⟨ret_i (by rw [← hV'.out]; rfl), hB2⟩
  · go_wp2_with (go_at_call 132; refine (isMoment_c _ _).mono ?_; rintro e w' ⟨rfl, rfl⟩; rw [← hmb.out])
    go_ret
    exact ⟨ret_i (by rw [← hV'.out]; rfl), hB2⟩
end Go.Proofs.YtpepdkgkdbnakaaGreatDoor
