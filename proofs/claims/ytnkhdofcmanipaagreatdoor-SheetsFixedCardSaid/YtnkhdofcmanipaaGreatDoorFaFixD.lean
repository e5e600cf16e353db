import Derived.Test.YtnkhdofcmanipaaGreatDoorFaFxB
import Derived.Test.YtnkhdofcmanipaaGreatDoorFaSheetP
import Derived.Test.YtnkhdofcmanipaaGreatDoorFaMkReg
import Derived.Deep.RegionHeld3
import Derived.BigRegion
import Derived.Deep.DeepCutAuto
/- Sheets that are put right by fixes: plain. -/
namespace Go.Proofs.YtnkhdofcmanipaaGreatDoor
open Go.Lib Go.Sort
set_option linter.unusedVariables false

def lpPut (le tm : Int) (p : LP.Lp) : LP.Lp := if p.length = le then ⟨p.length, tm, false⟩ else p
/-- what a fix that counts makes of a sheet -/
def putV (x : Fx) (s : Shd) : Shd :=
  if x.tm = 0 then s else if x.le = 0 then ⟨s.lane, s.laps, x.tm, 4⟩ else ⟨s.lane, s.laps.map (lpPut x.le x.tm), s.time, s.by_⟩
theorem putV_t0 {x : Fx} (h : x.tm = 0) (s : Shd) : putV x s = s := if_pos h
theorem putV_sw {x : Fx} (h : ¬ x.tm = 0) (h1 : x.le = 0) (s : Shd) : putV x s = ⟨s.lane, s.laps, x.tm, 4⟩ := by unfold putV; rw [if_neg h, if_pos h1]
theorem putV_lp {x : Fx} (h : ¬ x.tm = 0) (h1 : ¬ x.le = 0) (s : Shd) : putV x s = ⟨s.lane, s.laps.map (lpPut x.le x.tm), s.time, s.by_⟩ := by unfold putV; rw [if_neg h, if_neg h1]
def putsV (l : List Fx) (s : Shd) : Shd := l.foldl (fun s x => putV x s) s
theorem putsV_cons (x : Fx) (r : List Fx) (s : Shd) : putsV (x :: r) s = putsV r (putV x s) := rfl
theorem putV_lane (x : Fx) (s : Shd) : (putV x s).lane = s.lane := by unfold putV; split; rfl; split <;> rfl
theorem putV_len (x : Fx) (s : Shd) : (putV x s).laps.length = s.laps.length := by
  unfold putV
  split
  · rfl
  · split
    · rfl
    · exact List.length_map ..
/-- the same place -/
def samePl (x y : Fx) : Bool := decide (x.rc = y.rc) && (decide (x.ht = y.ht) && (decide (x.ln = y.ln) && decide (x.le = y.le)))
/-- no later version of the same place -/
def lastF (o : Option Fx) (x : Fx) : Bool := match o with
  | none => true
  | some y => !samePl y x
def hitF (key : ByteArray) (heat lane : Int) (o : Option Fx) (x : Fx) : Bool := lastF o x && (decide (x.rc = key) && (decide (x.ht = heat) && decide (x.ln = lane)))
/-- the fixes that count for a lane -/
def actF (key : ByteArray) (heat lane : Int) : List Fx → List Fx
  | [] => []
  | x :: r => if hitF key heat lane r.head? x = true then x :: actF key heat lane r else actF key heat lane r
theorem actF_cons (key : ByteArray) (heat lane : Int) (x : Fx) (r : List Fx) : actF key heat lane (x :: r) = if hitF key heat lane r.head? x = true then x :: actF key heat lane r else actF key heat lane r := rfl
/-- step by step, as the program goes -/
theorem act_step {key : ByteArray} {heat lane : Int} {l : List Fx} {k : Nat} {x : Fx} (h : l[k]? = some x) (s : Shd) :
    putsV (actF key heat lane (l.drop k)) s = putsV (actF key heat lane (l.drop (k + 1))) (if hitF key heat lane l[k + 1]? x = true then putV x s else s) := by
  rw [drop_at h]
  have e : (l.drop (k + 1)).head? = l[k + 1]? := by rw [List.head?_drop]
  rw [actF_cons, e]
  split <;> rfl
/-- the errors of sheets, and what becomes of them -/
def shtErr : Option Int → List Shd → Int
  | _, [] => 0
  | o, s :: r => if ¬ (1 ≤ s.lane ∧ s.lane ≤ 10) then 1 else if (match o with | some p => decide (s.lane ≤ p) | none => false) = true then 7 else shtErr (some s.lane) r
def fixdErr (r : Race) (f : List Fx) (heat : Int) (S : List Shd) : Int :=
  if raceErr r ≠ 0 then raceErr r else if fxErr f ≠ 0 then fxErr f else if ¬ (1 ≤ heat ∧ heat ≤ 60) then 1 else if 10 < S.length then 2 else shtErr none S
def fixdL (r : Race) (f : List Fx) (heat : Int) (S : List Shd) : List Shd := S.map fun s => putsV (actF r.key heat s.lane f) s
end Go.Proofs.YtnkhdofcmanipaaGreatDoor
/- pad.put: a fix is put into a sheet. -/
namespace Go.Proofs.YtnkhdofcmanipaaGreatDoor
open Go.RowKit Go.Shelf Go.Lib Go.Sort
set_option linter.unusedVariables false

/-- a sheet in a box of its own, with laps of its own -/
structure ShB (b : Nat) (A : Option Addr) (n c : Nat) (s : Shd) (W : World) : Prop where
  bx : W.heap[b]? = some (.cells #[.int .i64 s.lane, .slice A n c, .int .i64 s.time, .int .i64 s.by_] 62 (0, 0))
  o : W.ownsRow (b + 1) 57 3 (.slice A n c) n (s.laps.flatMap lpE)
theorem ShB.below {b : Nat} {A : Option Addr} {n c : Nat} {s : Shd} {W W' : World} (h : ShB b A n c s W) (B : Below W.heap.size W W') : ShB b A n c s W' := ⟨blk_below h.bx B, own_below h.o B⟩
theorem ShB.len {b : Nat} {A : Option Addr} {n c : Nat} {s : Shd} {W : World} (h : ShB b A n c s W) : s.laps.length = n := own_len lpE_len (by decide) h.o
theorem map_step {α : Type} (f : α → α) {L M : List α} {k : Nat} {p : α} (hM : M = (L.take k).map f ++ L.drop k) (hp : L[k]? = some p) : M[k]? = some p ∧ M.set k (f p) = (L.take (k + 1)).map f ++ L.drop (k + 1) ∧ (f p = p → M = (L.take (k + 1)).map f ++ L.drop (k + 1)) := by
  have hk := lt_of_at hp
  have hl : ((L.take k).map f).length = k := by rw [List.length_map, List.length_take]; omega
  have e1 : (L.take (k + 1)).map f = (L.take k).map f ++ [f p] := by rw [List.take_add_one, hp]; simp
  have h1 : M[k]? = some p := by
    rw [hM, List.getElem?_append_right (by omega), hl, Nat.sub_self, List.getElem?_drop]; exact hp
  refine ⟨h1, ?_, fun hf => ?_⟩
  · rw [e1, hM, drop_at hp, List.set_append_right _ _ (by omega), hl, Nat.sub_self]
    simp
  · rw [e1, hf, hM, drop_at hp]; simp
set_option maxHeartbeats 3200000 in
set_option maxRecDepth 100000 in
theorem put_c (b : Nat) (A : Option Addr) (n c : Nat) (s : Shd) (x : Fx) (W : World) (h : ShB b A n c s W) (hn : n ≤ 1000) :
    Calls Tryz.prog 69 #[.pointer (some ⟨b, 0, none⟩), .agg (fxE x).toArray] W fun e w' => e = .returned (.tuple #[]) ∧ ShB b A n c (putV x s) w' ∧ Below b W w' := by
  have hlen := h.len
  have hV0 := Lib.hid (fun (h : x.tm = 0) => putV_t0 h s)
  have hV1 := Lib.hid (fun (h : ¬ x.tm = 0) (h1 : x.le = 0) => putV_sw h h1 s)
  have hV2 := Lib.hid (fun (h : ¬ x.tm = 0) (h1 : ¬ x.le = 0) => putV_lp h h1 s)
  generalize putV x s = R at *
  obtain ⟨rc, ht, ln, le, tm, vr, by_⟩ := x
  obtain ⟨lane, laps, time, sb⟩ := s
  dsimp only [fxE] at *
  have hb := lt_of_heap h.bx
  have hn0 := heap_alloc_new W (.cells #[.string rc, .int .i64 ht, .int .i64 ln, .int .i64 le, .int .i64 tm, .int .i64 vr, .string by_] 69)
  have h0 := h.below (below_new W (.cells #[.string rc, .int .i64 ht, .int .i64 ln, .int .i64 le, .int .i64 tm, .int .i64 vr, .string by_] 69))
  have hB0 : Below b W (W.alloc (.cells #[.string rc, .int .i64 ht, .int .i64 ln, .int .i64 le, .int .i64 tm, .int .i64 vr, .string by_] 69)) := (Below.refl b W).alloc (Nat.le_of_lt hb) _
  have hzl : ∀ i, (Value.slice A n c).ownBlock = some i → i < W.heap.size := fun i hi => (h.o.lt i hi).2
  have x3 := (blk_facts hn0).1 3
  have x4 := (blk_facts hn0).1 4
  by_cases h4 : tm = 0
  · have e1 : (tm == 0) = true := by rw [h4]; rfl
    obtain rfl := hV0.out h4
    have h0' := Lib.hid h0
    have hB0' := Lib.hid hB0
    clear hV0 hV1 hV2 h0 hB0 h hn0 h4
    go_enter Tryz.func69, Tryz.ntmps69
    go_wp2
    refine bodyPost_ret (results_none rfl _ _ _) rfl ?_
    exact ⟨rfl, h0'.out, hB0'.out⟩
  have e4 : (tm == 0) = false := beq_eq_false_iff_ne.2 h4
  by_cases h3 : le = 0
  · obtain rfl := hV1.out h4 h3
    clear hV0 hV1 hV2
    subst h3
    have v2 : W.cell? ⟨b, 2, none⟩ = some (.int .i64 time) := (blk_facts h.bx).1 2
    have v3 : W.cell? ⟨b, 3, none⟩ = some (.int .i64 sb) := (blk_facts h.bx).1 3
    have v4 := (blk_facts h.bx).2 2
    have v5 := (blk_facts h.bx).2 3
    have f2 := (blk_facts h0.bx).2 2
    have f3 := (blk_facts h0.bx).2 3
    have hF := Lib.hid (show ShB b A n c ⟨lane, laps, tm, 4⟩ (((W.setCell ⟨b, 2, none⟩ (.int .i64 tm)).setCell ⟨b, 3, none⟩ (.int .i64 4)).alloc (.cells #[.string rc, .int .i64 ht, .int .i64 ln, .int .i64 0, .int .i64 tm, .int .i64 vr, .string by_] 69)) ∧ Below b W (((W.setCell ⟨b, 2, none⟩ (.int .i64 tm)).setCell ⟨b, 3, none⟩ (.int .i64 4)).alloc (.cells #[.string rc, .int .i64 ht, .int .i64 ln, .int .i64 0, .int .i64 tm, .int .i64 vr, .string by_] 69)) from by
      have k1 := blk_set (blk_set h.bx 2 (.int .i64 tm)) 3 (.int .i64 4)
      have g1 : W.grownBy ((W.setCell ⟨b, 2, none⟩ (.int .i64 tm)).setCell ⟨b, 3, none⟩ (.int .i64 4)) (some b) := grown_setCell (grown_setCell (grown_refl _ _) (p := ⟨b, 2, none⟩) (.inl rfl) _) (p := ⟨b, 3, none⟩) (.inl rfl) _
      have hS : ShB b A n c ⟨lane, laps, tm, 4⟩ ((W.setCell ⟨b, 2, none⟩ (.int .i64 tm)).setCell ⟨b, 3, none⟩ (.int .i64 4)) := ⟨k1, h.o.kept (row := some b) g1 (.inr (fun e => by have := own_row_lt h.o b e; omega))⟩
      have hB : Below b W ((W.setCell ⟨b, 2, none⟩ (.int .i64 tm)).setCell ⟨b, 3, none⟩ (.int .i64 4)) := ((Below.refl b W).setCell (Nat.le_refl _) _).setCell (Nat.le_refl _) _
      exact ⟨hS.below (below_new _ _), hB.alloc (by simp [World.setCell]; omega) _⟩)
    clear h0 hB0 h hn0
    go_enter Tryz.func69, Tryz.ntmps69
    go_wp2
    refine bodyPost_ret (results_none rfl _ _ _) rfl ?_
    exact ⟨rfl, hF.out.1, hF.out.2⟩
  have e3 : (le == 0) = false := beq_eq_false_iff_ne.2 h3
  obtain rfl := hV2.out h4 h3
  have hst := Lib.hid (fun (k : Nat) (M : List LP.Lp) (p : LP.Lp) (hM : M = (laps.take k).map (lpPut le tm) ++ laps.drop k) (hp : laps[k]? = some p) => map_step (lpPut le tm) hM hp)
  have hpe := Lib.hid (fun (p : LP.Lp) (h : p.length = le) => show lpPut le tm p = ⟨p.length, tm, false⟩ from if_pos h)
  have hpn := Lib.hid (fun (p : LP.Lp) (h : ¬ p.length = le) => show lpPut le tm p = p from if_neg h)
  have hend := Lib.hid (show (laps.take n).map (lpPut le tm) ++ laps.drop n = laps.map (lpPut le tm) by rw [List.take_of_length_le (by omega), List.drop_of_length_le (by omega), List.append_nil])
  have hlen' := Lib.hid hlen
  have y1 : W.cell? ⟨b, 1, none⟩ = some (.slice A n c) := (blk_facts h.bx).1 1
  clear hV0 hV1 hV2 h
  generalize lpPut le tm = PF at *
  have hx0 := hn0
  clear hn0 hlen
  go_enter Tryz.func69, Tryz.ntmps69
  go_wp2_with fail
  generalize W.alloc (.cells #[.string rc, .int .i64 ht, .int .i64 ln, .int .i64 le, .int .i64 tm, .int .i64 vr, .string by_] 69) = W1 at *
  clear x3 x4 y1
  go_loopw [4, 22] (fun _ i wr => ∃ (k : Nat) (M : List LP.Lp), k ≤ n ∧ i = .int .i64 k ∧ ShB b A n c ⟨lane, M, time, sb⟩ wr ∧ Hid (M = (laps.take k).map PF ++ laps.drop k) ∧ wr.heap[W.heap.size]? = some (.cells #[.string rc, .int .i64 ht, .int .i64 ln, .int .i64 le, .int .i64 tm, .int .i64 vr, .string by_] 69 (0, 0)) ∧ Below b W wr) (fun _ i _ => n - (intOf i).toNat)
  case atStart => exact ⟨0, laps, Nat.zero_le _, rfl, h0, Lib.hid (by simp), hx0, hB0⟩
  case round =>
    clear h0 hx0 hB0
    rename World => wr
    obtain ⟨k, M, hk, rfl, hS, hM, hx0, hB⟩ := hrel
    by_cases hlt : k < n
    · have hlti : (k : Int) < n := by omega
      obtain ⟨p, hp⟩ := at_of_lt (l := laps) (k := k) (by rw [hlen'.out]; exact hlt)
      obtain ⟨m1, m2, m3⟩ := hst.out k M p hM.out hp
      obtain ⟨z, hA, hz⟩ := own_someN hS.o (by omega)
      have hzn := hzl z (by rw [hA]; rfl)
      have ho := hS.o
      have hbx := hS.bx
      subst hA
      have hf0 := flat_atC lpE_len M k 0 p m1 (by decide)
      have c0 : wr.cell? ⟨z, k * 3, none⟩ = some (.int .i64 p.length) := by rw [ho.cellAt (k * 3) (by omega)]; exact hf0
      have c1 : wr.cell? ⟨z, k * 3 + 1, none⟩ = some (.int .i64 p.time) := by rw [ho.cellAt (k * 3 + 1) (by omega)]; exact flat_atC lpE_len M k 1 p m1 (by decide)
      have c2 : wr.cell? ⟨z, k * 3 + 2, none⟩ = some (.bool p.filled) := by rw [ho.cellAt (k * 3 + 2) (by omega)]; exact flat_atC lpE_len M k 2 p m1 (by decide)
      have f1 := ho.frozenAt (k * 3 + 1)
      have f2 := ho.frozenAt (k * 3 + 2)
      have y1 : wr.cell? ⟨b, 1, none⟩ = some (.slice (some ⟨z, 0, none⟩) n c) := (blk_facts hbx).1 1
      have x3 := (blk_facts hx0).1 3
      have x4 := (blk_facts hx0).1 4
      by_cases he : p.length = le
      · have e9 : (p.length == le) = true := by rw [he]; simp
        have hN := Lib.hid (fun q => show ShB b (some ⟨z, 0, none⟩) n c ⟨lane, M.set k (PF p), time, sb⟩ (((wr.drewN q).setCell ⟨z, k * 3 + 1, none⟩ (.int .i64 tm)).setCell ⟨z, k * 3 + 2, none⟩ (.bool false)) ∧ (((wr.drewN q).setCell ⟨z, k * 3 + 1, none⟩ (.int .i64 tm)).setCell ⟨z, k * 3 + 2, none⟩ (.bool false)).heap[W.heap.size]? = some (.cells #[.string rc, .int .i64 ht, .int .i64 ln, .int .i64 le, .int .i64 tm, .int .i64 vr, .string by_] 69 (0, 0)) ∧ Below b W (((wr.drewN q).setCell ⟨z, k * 3 + 1, none⟩ (.int .i64 tm)).setCell ⟨z, k * 3 + 2, none⟩ (.bool false)) from by
          have hd := below_drewN (Below.refl wr.heap.size wr) q
          have s1 := ((own_below ho hd).stored (k * 3 + 1) (.int .i64 tm)).1
          have s2 := (s1.stored (k * 3 + 2) (.bool false)).1
          rw [flat_set lpE_len M k p ⟨p.length, tm, p.filled⟩ 1 (.int .i64 tm) m1 (by decide) rfl, flat_set lpE_len _ k ⟨p.length, tm, p.filled⟩ ⟨p.length, tm, false⟩ 2 (.bool false) (List.getElem?_set_self (lt_of_at m1)) (by decide) rfl, List.set_set, ← hpe.out p he] at s2
          refine ⟨⟨blk_other (blk_other (blk_below hbx hd) (p := ⟨z, k * 3 + 1, none⟩) (by show b ≠ z; omega) _) (p := ⟨z, k * 3 + 2, none⟩) (by show b ≠ z; omega) _, s2⟩, blk_other (blk_other (blk_below hx0 hd) (p := ⟨z, k * 3 + 1, none⟩) (by show W.heap.size ≠ z; omega) _) (p := ⟨z, k * 3 + 2, none⟩) (by show W.heap.size ≠ z; omega) _, ((below_drewN hB q).setCell (p := ⟨z, k * 3 + 1, none⟩) (by show b ≤ z; omega) _).setCell (p := ⟨z, k * 3 + 2, none⟩) (by show b ≤ z; omega) _⟩)
        clear hS ho hbx hx0 hB m1 m3 hf0 hp he
        go_wp2_with fail
        go_quiet (fail)
        go_wp2_with fail
        go_region
        go_wp2
        go_roundw
        case rel => exact ⟨k + 1, M.set k (PF p), by omega, by go_num, (hN.out _).1, Lib.hid m2, (hN.out _).2.1, (hN.out _).2.2⟩
        case measure => simp [intOf]; omega
      · have e9 : (p.length == le) = false := beq_eq_false_iff_ne.2 he
        have m4 := Lib.hid (m3 (hpn.out p he))
        clear ho hbx m1 m2 m3 hf0 hp he
        go_wp2_with fail
        go_quiet (fail)
        go_wp2
        go_roundw
        case rel => exact ⟨k + 1, M, by omega, by go_num, hS.below (below_drewN (Below.refl _ _) _), m4, hx0, below_drewN hB _⟩
        case measure => simp [intOf]; omega
    · obtain rfl : k = n := by omega
      have hM2 : M = laps.map PF := hM.out.trans hend.out
      subst hM2
      go_wp2
      go_end0
      exact ⟨rfl, hS, hB⟩
end Go.Proofs.YtnkhdofcmanipaaGreatDoor
