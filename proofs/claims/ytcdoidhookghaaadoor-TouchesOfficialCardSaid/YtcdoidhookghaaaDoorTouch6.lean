/- The official times of a heat: the program's, the reference's. -/
import Derived.Test.YtcdoidhookghaaaDoorTouch5
namespace Go.Proofs.YtcdoidhookghaaaDoor
open Go.RowKit
set_option linter.unusedVariables false

def fixS (S : Int) (o : Sm) : Sm := if o.by_ = 2 then ⟨min (max (o.time - S) 1) 360000, 2⟩ else o
def heatM (S : Int) (l : List Tc) : List Sm := l.map fun x => fixS S (offV x)
def heatL (l : List Tc) : List Sm := heatM (shiftV l) l
theorem heatM_at {S : Int} {l : List Tc} {k : Nat} {x : Tc} (h : l[k]? = some x) : heatM S (l.drop k) = fixS S (offV x) :: heatM S (l.drop (k + 1)) := by rw [drop_at h]; rfl
theorem off_bd {x : Tc} (h : touchErr x = 0) : 0 ≤ (offV x).time ∧ (offV x).time ≤ 360000 := by
  obtain ⟨p0, p1, q0, q1, _, hb⟩ := touch_ok h
  have hw := watch_bd hb
  unfold offV offW
  split
  · exact ⟨p0, p1⟩
  · split
    · exact ⟨q0, q1⟩
    · split
      · exact hw
      · exact ⟨by decide, by decide⟩
theorem shS_bd : ∀ {l : List Tc}, (∀ x ∈ l, touchErr x = 0) → -360000 * (l.length : Int) ≤ shS l ∧ shS l ≤ 360000 * (l.length : Int)
  | [], _ => by simp [shS]
  | x :: r, h => by
    have h1 := shS_bd (l := r) (fun y hy => h y (by simp [hy]))
    obtain ⟨p0, p1, q0, q1, _, _⟩ := touch_ok (h x (by simp))
    unfold shS
    rw [List.length_cons]
    split <;> omega
theorem shift_bd {l : List Tc} (h : heatErr l = 0) : -3600000 ≤ shiftV l ∧ shiftV l ≤ 3600000 := by
  obtain ⟨h1, h2⟩ := heat_ok h
  have h3 := shS_bd h2
  unfold shiftV
  split
  · omega
  · have h4 : ((shS l).tdiv (shM l)).natAbs ≤ (shS l).natAbs := by rw [Int.natAbs_tdiv]; exact Nat.div_le_self _ _
    omega
theorem fix2 {S tm v : Int} (h : v = min (max (tm - S) 1) 360000) : fixS S ⟨tm, 2⟩ = ⟨v, 2⟩ := by subst h; rfl
theorem fix_no {S tm b : Int} (h : b ≠ 2) : fixS S ⟨tm, b⟩ = ⟨tm, b⟩ := by unfold fixS; rw [if_neg h]
theorem snoc_sm {w : World} {base k : Nat} {out : Value} {acc : List Sm} {t b : Int} (h : w.ownsRow base 68 2 out k (acc.flatMap smE ++ (#[.int .i64 t, .int .i64 b] : Array Value).toList)) : w.ownsRow base 68 2 out k ((acc ++ [(⟨t, b⟩ : Sm)]).flatMap smE) := by
  rw [← flat_snoc]; exact h
theorem info_swum : (Tryd.prog.info? 68).map (fun i => (i.zero, i.size, i.bytes)) = some (some (.agg #[.int .i64 0, .int .i64 0]), 2, 16) := by kernel_rfl
set_option maxHeartbeats 3200000 in
set_option maxRecDepth 100000 in
theorem heatTimes_c (A : Option Addr) (n c : Nat) (l : List Tc) (w : World) (h : RTc w A n l) (h0 : heatErr l = 0) :
    Calls Tryd.prog 42 #[.slice A n c] w fun e w' => ∃ A' c', e = .returned (.slice A' n c') ∧ RSm w' A' n (heatL l) ∧ Below w.heap.size w w' := by
  obtain ⟨h10, hok⟩ := heat_ok h0
  have hl := h.len
  rw [hl] at h10
  have hl' := Lib.hid hl
  have hok' := Lib.hid hok
  have hO := Lib.hid (fun x W h h0 => officialOf_c x W h h0)
  have hSh := Lib.hid (fun W h => shiftOf_c A n c l W h h0)
  have hHL : heatL l = heatM (shiftV l) l := rfl
  obtain ⟨sb0, sb1⟩ := shift_bd h0
  rw [hHL]
  clear hl hok h0 hHL
  generalize shiftV l = S at *
  generalize shiftB l = SB at *
  generalize hE : heatM S l = E
  have hE' := Lib.hid hE
  clear hE
  go_enter Tryd.func42, Tryd.ntmps42
  go_wp2_with fail
  refine (hSh.out _ h).mono ?_; rintro e w1 ⟨rfl, B1⟩
  go_wp2_with fail
  go_loopw [5, 16] (fun out i wr => ∃ (k : Nat) (acc : List Sm), k ≤ n ∧ i = .int .i64 k ∧ Hid (acc.length = k) ∧ wr.ownsRow w.heap.size 68 2 out k (acc.flatMap smE) ∧ Below w.heap.size w wr ∧ Hid (acc ++ heatM S (l.drop k) = E)) (fun _ i _ => n - (intOf i).toNat)
  case atStart => exact ⟨0, [], Nat.zero_le _, rfl, Lib.hid rfl, World.ownsRow_nil _ _ _ _, B1, Lib.hid hE'.out⟩
  case round =>
    clear B1
    obtain ⟨k, acc, hk, rfl, hla, hown, hB, hF⟩ := hrel
    by_cases hlt : k < n
    · obtain ⟨b, off, x, hA, hbl, hx, c0, c1, c2, hI⟩ := (h.below hB).at3 hlt
      subst hA
      have hx0 := hok'.out x (List.mem_of_getElem? hx)
      have hM := Lib.hid (heatM_at (S := S) hx)
      have hO1 := Lib.hid (fun W h => hO.out x W h hx0)
      obtain ⟨t0, t1⟩ := off_bd hx0
      generalize offV x = o at *
      obtain ⟨pad, btn, xA, xn, xc, ws⟩ := x
      obtain ⟨tm, by_⟩ := o
      dsimp only [Tc.val, Sm.val] at *
      have hn5 := heap_alloc_new wr (.cells #[.int .i64 pad, .int .i64 btn, .slice xA xn xc] 58)
      have z5 := (blk_facts hn5).1
      have hB5 := hB.alloc hB.size (.cells #[.int .i64 pad, .int .i64 btn, .slice xA xn xc] 58)
      have hI5 := hI.alloc (.cells #[.int .i64 pad, .int .i64 btn, .slice xA xn xc] 58)
      have hown5 := hown.alloc (.cells #[.int .i64 pad, .int .i64 btn, .slice xA xn xc] 58)
      clear hx hI hB hx0 hn5 hown
      have e1 : IntKind.i64.wrap (tm - S) = tm - S := IntWalk.i64_in _ (by omega)
      go_wp2_with fail
      refine (hO1.out _ hI5).mono ?_; rintro e w6 ⟨rfl, B6⟩
      have hown6 := own_below hown5 B6
      have hB6 := below_next hB5 B6
      clear B6 hI5 z5 hown5 hB5
      have hn7 := heap_alloc_new w6 (.cells #[.int .i64 tm, .int .i64 by_] 68)
      have z7 := (blk_facts hn7).1
      have f7 := (blk_facts hn7).2
      have hown7 := hown6.alloc (.cells #[.int .i64 tm, .int .i64 by_] 68)
      have hB7 := hB6.alloc hB6.size (.cells #[.int .i64 tm, .int .i64 by_] 68)

      have hza := hB7.size
      have hlt6 := hB6.size
      have hown8 := hown6.alloc (.cells #[.int .i64 (min (max (tm - S) 1) 360000), .int .i64 2] 68)
      have hB8 := hB6.alloc hB6.size (.cells #[.int .i64 (min (max (tm - S) 1) 360000), .int .i64 2] 68)
      have hzb := hB8.size
      clear hn7
      by_cases hy : by_ = 2
      · subst hy
        clear hown7 hown6 hB6 hB7 hza
        go_wp2_with (at_builtin; refine wpList_app rfl (.tmp 32) (.tmp 34) 73 rfl Tryd.underlying73 info_swum rfl (by omega) (by omega) hown8 rfl rfl (by first | rfl | (simp; done)) rfl (by simp [Value.oneCell']) (by omega) hzb ?_; intro v' w' hown' hg; have H := Lib.hid (And.intro (snoc_sm hown') (below_own hB8 hown8 hg hzb (Nat.le_refl _))); clear hown' hg)
        go_roundw
        case rel => exact ⟨k + 1, _, by omega, by go_num, Lib.hid (by rw [List.length_append, hla.out]; rfl), H.out.1, H.out.2, Lib.hid (by rw [← hF.out, hM.out]; simp only [List.append_assoc, List.cons_append, List.nil_append]; rfl)⟩
        case measure => simp [intOf]; omega
      · have hyb : (by_ == 2) = false := beq_eq_false_iff_ne.2 hy
        have hy' := Lib.hid hy
        clear hown8 hB8 hy
        go_wp2_with (at_builtin; refine wpList_app rfl (.tmp 32) (.tmp 34) 73 rfl Tryd.underlying73 info_swum rfl (by omega) (by omega) hown7 rfl rfl (by first | rfl | (simp; done)) rfl (by simp [Value.oneCell']) (by omega) hza ?_; intro v' w' hown' hg; have H := Lib.hid (And.intro (snoc_sm hown') (below_own hB7 hown7 hg hza (Nat.le_refl _))); clear hown' hg)
        go_roundw
        case rel => exact ⟨k + 1, _, by omega, by go_num, Lib.hid (by rw [List.length_append, hla.out]; rfl), H.out.1, H.out.2, Lib.hid (by rw [← hF.out, hM.out]; simp only [List.append_assoc, List.cons_append, List.nil_append]; congr 2; exact (fix_no hy'.out).symm)⟩
        case measure => simp [intOf]; omega
    · obtain rfl : k = n := by omega
      have hE1 := hF.out
      rw [drop_end (by rw [hl'.out]; exact Nat.le_refl _)] at hE1
      have hE2 : acc = E := by simpa [heatM] using hE1
      subst hE2
      obtain ⟨A', c', rfl⟩ := own_shape hown
      go_wp2
      go_ret
      exact ⟨_, _, rfl, RN.of_own smE_len hown hla.out (by omega), hB⟩
end Go.Proofs.YtcdoidhookghaaaDoor
