/- Runs of equal times: heat.groups, tumbref1.zone; plain laws on them. -/
import Derived.Test.YtjafcnblgeibpaaGreatDoorFinC
import Derived.Test.YtjafcnblgeibpaaGreatDoorApp2
import Derived.Deep.QuietTactic
import Derived.Deep.DeepCutAuto
import Derived.Deep.CutBlock
import Derived.BigQuiet
import Derived.BigGuardPart
namespace Go.Proofs.YtjafcnblgeibpaaGreatDoor
open Go.RowKit Go.Shelf Go.Lib Go.Sort
set_option linter.unusedVariables false

/-- how many at the head of a list have a time -/
def runN (t : Int) : List Sd → Nat
  | [] => 0
  | x :: r => if x.time = t then runN t r + 1 else 0
theorem runN_le (t : Int) : ∀ l : List Sd, runN t l ≤ l.length
  | [] => Nat.le_refl _
  | x :: r => by
    unfold runN
    have := runN_le t r
    split <;> simp <;> omega
/-- the end of the run that begins at i -/
def runE (L : List Sd) (i : Nat) : Nat := match L[i]? with
  | none => i + 1
  | some x => i + 1 + runN x.time (L.drop (i + 1))
theorem runE_at {L : List Sd} {i : Nat} {x : Sd} (h : L[i]? = some x) : runE L i = i + 1 + runN x.time (L.drop (i + 1)) := by unfold runE; rw [h]
theorem runE_gt (L : List Sd) (i : Nat) : i < runE L i := by unfold runE; split <;> omega
theorem runE_le {L : List Sd} {i : Nat} (h : i < L.length) : runE L i ≤ L.length := by
  obtain ⟨x, hx⟩ := at_of_lt h
  rw [runE_at hx]
  have := runN_le x.time (L.drop (i + 1))
  rw [List.length_drop] at this
  omega
theorem runN_same {t : Int} {L : List Sd} {q : Nat} {y : Sd} (hy : L[q]? = some y) (ht : y.time = t) : q + runN t (L.drop q) = q + 1 + runN t (L.drop (q + 1)) := by
  rw [drop_at hy, show runN t (y :: L.drop (q + 1)) = if y.time = t then runN t (L.drop (q + 1)) + 1 else 0 from rfl, if_pos ht]
  omega
theorem runN_stop {t : Int} {L : List Sd} {q : Nat} {y : Sd} (hy : L[q]? = some y) (ht : y.time ≠ t) : q + runN t (L.drop q) = q := by
  rw [drop_at hy, show runN t (y :: L.drop (q + 1)) = if y.time = t then runN t (L.drop (q + 1)) + 1 else 0 from rfl, if_neg ht]
  rfl
theorem runN_end {t : Int} {L : List Sd} {q : Nat} (hq : L.length ≤ q) : q + runN t (L.drop q) = q := by
  rw [drop_end hq]
  rfl
/-- the runs that are split between two finals, from i on -/
def grpL (f : Fl) (L : List Sd) (i : Nat) : List (Nat × Nat) :=
  if h : i < L.length then (if cls f i ≠ cls f (runE L i - 1) then [(i, runE L i)] else []) ++ grpL f L (runE L i) else []
termination_by L.length - i
decreasing_by have := runE_gt L i; omega
theorem grpL_at {f : Fl} {L : List Sd} {i : Nat} (h : i < L.length) : grpL f L i = (if cls f i ≠ cls f (runE L i - 1) then [(i, runE L i)] else []) ++ grpL f L (runE L i) := by
  rw [grpL]
  exact dif_pos h
theorem grpL_end {f : Fl} {L : List Sd} {i : Nat} (h : L.length ≤ i) : grpL f L i = [] := by
  rw [grpL]
  exact dif_neg (by omega)
theorem grpL_bd (f : Fl) (L : List Sd) (i : Nat) : ∀ g ∈ grpL f L i, i ≤ g.1 ∧ g.1 < g.2 ∧ g.2 ≤ L.length := by
  rw [grpL]
  split
  · rename_i h
    intro g hg
    have h1 := runE_gt L i
    have h2 := runE_le h
    rcases List.mem_append.1 hg with hg | hg
    · split at hg
      · obtain rfl := List.mem_singleton.1 hg
        exact ⟨Nat.le_refl _, h1, h2⟩
      · cases hg
    · have := grpL_bd f L (runE L i) g hg
      omega
  · intro g hg
    cases hg
termination_by L.length - i
decreasing_by have := runE_gt L i; omega
theorem grpL_len (f : Fl) (L : List Sd) (i : Nat) : (grpL f L i).length ≤ L.length - i := by
  rw [grpL]
  split
  · rename_i h
    have h1 := runE_gt L i
    have h2 := runE_le h
    have h3 := grpL_len f L (runE L i)
    rw [List.length_append]
    have : (if cls f i ≠ cls f (runE L i - 1) then [(i, runE L i)] else []).length ≤ 1 := by split <;> simp
    omega
  · simp
termination_by L.length - i
decreasing_by have := runE_gt L i; omega
def grpV (f : Fl) (L : List Sd) : List (Nat × Nat) := grpL f L 0
def grE (x : Nat × Nat) : List Value := [.int .i64 x.1, .int .i64 x.2]
theorem grE_len : ∀ x, (grE x).length = 2 := fun _ => rfl
abbrev RGr (w : World) (A : Option Addr) (n : Nat) (l : List (Nat × Nat)) : Prop := RN 2 grE 126 w A n l
theorem RGr_at2 {w : World} {A : Option Addr} {n : Nat} {l : List (Nat × Nat)} (h : RGr w A n l) {k : Nat} (hk : k < n) : ∃ b off x, A = some ⟨b, off, none⟩ ∧ b < w.heap.size ∧ l[k]? = some x ∧ w.cell? ⟨b, off + k * 2, none⟩ = some (.int .i64 x.1) ∧ w.cell? ⟨b, off + k * 2 + 1, none⟩ = some (.int .i64 x.2) := by
  obtain ⟨b, off, x, hA, hb, hx, hc⟩ := h.at_ hk
  exact ⟨b, off, x, hA, hb, hx, hc 0 _ rfl, hc 1 _ rfl⟩
theorem info_group : (Tryz.prog.info? 126).map (fun i => (i.zero, i.size, i.bytes)) = some (some (.agg #[.int .i64 0, .int .i64 0]), 2, 16) := by kernel_rfl
theorem flat_snocG (l : List (Nat × Nat)) (x : Nat × Nat) : (l ++ [x]).flatMap grE = l.flatMap grE ++ grE x := by rw [List.flatMap_append]; simp
set_option maxHeartbeats 3200000 in
set_option maxRecDepth 100000 in
theorem groups_c (f : Fl) (hf : FlOk f) (A : Option Addr) (n c : Nat) (l : List Sd) (w : World) (h : RSd w A n l) (hn : n ≤ 500) :
    Calls Tryz.prog 88 #[f.val, .slice A n c] w fun e w' => ∃ A' c', e = .returned (.slice A' (grpV f l).length c') ∧ RGr w' A' (grpV f l).length (grpV f l) ∧ Below w.heap.size w w' := by
  have hl := Lib.hid h.len
  have hCl := Lib.hid (fun i hi W => class_c f hf i hi W)
  have hC2 := Lib.hid (fun (q : Nat) (h0 : 1 ≤ q) (hq : q ≤ 1000) W => show Calls Tryz.prog 153 #[f.val, .int .i64 ((q : Int) - 1)] W fun e w' => e = .returned (.int .i64 (cls f (q - 1))) ∧ Below W.heap.size W w' by
    have := class_c f hf (q - 1) (by omega) W
    rwa [show ((q - 1 : Nat) : Int) = (q : Int) - 1 by omega] at this)
  have hGa := Lib.hid (fun i (h : i < l.length) => grpL_at (f := f) h)
  have hGe := Lib.hid (fun i (h : l.length ≤ i) => grpL_end (f := f) h)
  have hGl := Lib.hid (show (grpV f l).length ≤ 500 by have := grpL_len f l 0; have := h.len; unfold grpV; omega)
  have hV := Lib.hid (show grpV f l = grpL f l 0 from rfl)
  have hF0 : FinB w.heap.size f (w.alloc (.cells f.cells 27)) := heap_alloc_new w _
  have hB0 := below_new w (.cells f.cells 27)
  have hFk := Lib.hid (fun a v (h : FinB w.heap.size f a) B => FinB.keep a v h B)
  have hFa := Lib.hid (fun v (h : FinB w.heap.size f v) => h.at_)
  have hFg := Lib.hid (fun (a v : World) (u : Value) (n : Nat) (xs : List Value) (h : FinB w.heap.size f a) (ho : a.ownsRow (w.heap.size + 1) 126 2 u n xs) (hg : a.grownBy v u.ownBlock) => show FinB w.heap.size f v from blk_grown h hg (fun e => by have := own_row_lt ho _ e.symm; omega))
  have hz0 : w.heap.size + 1 ≤ (w.alloc (.cells f.cells 27)).heap.size := by simp
  generalize grpL f l = GL at *
  generalize grpV f l = GV at *
  generalize cls f = CL at *
  obtain ⟨sz, mn, rs⟩ := f
  dsimp only [Fl.val, Fl.cells] at *
  generalize FinB w.heap.size ⟨sz, mn, rs⟩ = FB at *
  have hR := Lib.hid (fun W B => h.below (w' := W) B)
  clear h
  go_enter Tryz.func88, Tryz.ntmps88
  go_wp2_with fail
  go_loopw [5, 6, 7] (fun u iv _ wr => ∃ (i m : Nat) (acc : List (Nat × Nat)), i ≤ n ∧ iv = .int .i64 i ∧ m ≤ i ∧ wr.ownsRow (w.heap.size + 1) 126 2 u m (acc.flatMap grE) ∧ FB wr ∧ Below w.heap.size w wr ∧ w.heap.size + 1 ≤ wr.heap.size ∧ Hid (acc ++ GL i = GL 0)) (fun _ iv _ _ => n - (intOf iv).toNat)
  case atStart => exact ⟨0, 0, [], Nat.zero_le _, rfl, Nat.le_refl _, World.ownsRow_nil _ _ _ _, hF0, hB0, hz0, Lib.hid rfl⟩
  case round =>
    clear hF0 hB0 hz0
    obtain ⟨i, m, acc, hi, rfl, hmi, hown, hF, hB, hz, hG⟩ := hrel
    obtain ⟨A5, c5, rfl⟩ := own_shape hown
    by_cases hlt : i < n
    · obtain ⟨b, off, x, rfl, hbl, hx, c0, c1⟩ := RSd_at2 (hR.out _ hB) hlt
      have hx' := Lib.hid hx
      have hE := Lib.hid (runE_at hx)
      have hEl := Lib.hid (runE_le (L := l) (i := i) (by rw [hl.out]; exact hlt))
      have hG2 := Lib.hid (show acc ++ ((if CL i ≠ CL (runE l i - 1) then [(i, runE l i)] else []) ++ GL (runE l i)) = GL 0 by rw [← hG.out, hGa.out i (by rw [hl.out]; exact hlt)])
      obtain ⟨who, t⟩ := x
      dsimp only at *
      clear hx hG c0 c1
      go_upto_block 2 with (fail)
      go_cut [7] (fun kv wx => kv = .int .i64 (runE l i) ∧ wx.ownsRow (w.heap.size + 1) 126 2 (.slice A5 m c5) m (acc.flatMap grE) ∧ FB wx ∧ Below w.heap.size w wx ∧ w.heap.size + 1 ≤ wx.heap.size)
      case first =>
        go_wp2_with fail
        go_loopw [7] (fun kv wx => ∃ q : Nat, i + 1 ≤ q ∧ q ≤ n ∧ kv = .int .i64 q ∧ wx.ownsRow (w.heap.size + 1) 126 2 (.slice A5 m c5) m (acc.flatMap grE) ∧ FB wx ∧ Below w.heap.size w wx ∧ w.heap.size + 1 ≤ wx.heap.size ∧ Hid (runE l i = q + runN t (l.drop q))) (fun kv _ => n - (intOf kv).toNat)
        case atStart => exact ⟨i + 1, Nat.le_refl _, by omega, by go_num, hown, hF, hB, hz, hE⟩
        case round =>
          clear hown hF hB hz hE
          rename World => wx
          obtain ⟨q, hiq, hq, rfl, hown, hF, hB, hz, hE⟩ := hrel
          obtain ⟨b1, off1, x1, hA1, _, hx1, _, c1⟩ := RSd_at2 (hR.out _ hB) hlt
          injection hA1 with hA1
          injection hA1 with e1 e2
          subst e1 e2
          obtain rfl : (⟨who, t⟩ : Sd) = x1 := by rw [hx'.out] at hx1; exact Option.some.inj hx1
          clear hx1
          dsimp only at c1
          by_cases hqn : q < n
          · have hqi : (q : Int) < n := by omega
            obtain ⟨b2, off2, y, hA2, _, hy, _, d1⟩ := RSd_at2 (hR.out _ hB) hqn
            injection hA2 with hA2
            injection hA2 with e1 e2
            subst e1 e2
            obtain ⟨who2, t2⟩ := y
            dsimp only at d1
            by_cases hyt : t2 = t
            · have hE2 := Lib.hid (hE.out.trans (runN_same hy hyt))
              subst hyt
              clear hy hE
              go_wp2
              go_quiet (fail)
              go_wp2
              go_roundw
              case rel => exact ⟨q + 1, by omega, by omega, by go_num, own_below hown (below_drewN (Below.refl _ _) _), hFk.out _ _ hF (below_drewN (Below.refl _ _) _), below_drewN hB _, hz, hE2⟩
              case measure => simp [intOf]; omega
            · have hE2 := Lib.hid (hE.out.trans (runN_stop hy hyt))
              have hne : (t2 == t) = false := beq_eq_false_iff_ne.2 hyt
              clear hy hE hyt
              go_wp2
              go_quiet (fail)
              go_wp2
              go_meet
              case rel => exact ⟨by rw [hE2.out], own_below hown (below_drewN (Below.refl _ _) _), hFk.out _ _ hF (below_drewN (Below.refl _ _) _), below_drewN hB _, hz⟩
          · have hE2 := Lib.hid (hE.out.trans (runN_end (t := t) (by rw [hl.out]; omega)))
            have hqi : ¬ (q : Int) < n := by omega
            clear hE
            go_wp2
            go_quiet (fail)
            go_wp2
            go_meet
            case rel => exact ⟨by rw [hE2.out], own_below hown (below_drewN (Below.refl _ _) _), hFk.out _ _ hF (below_drewN (Below.refl _ _) _), below_drewN hB _, hz⟩
      case rest =>
        clear hown hF hB hz hE
        rename World => wx
        obtain ⟨rfl, hown, hF, hB, hz⟩ := hcut
        have hgt := runE_gt l i
        have hle := hEl.out
        rw [hl.out] at hle
        clear hEl hx'
        generalize runE l i = q at *
        obtain ⟨y0, y1, y2⟩ := hFa.out _ hF
        go_wp2_with fail
        have hFd := Lib.hid (show FB wx.drew from hFk.out _ _ hF (below_drewN (Below.refl _ _) 1))
        have hod := Lib.hid hown.drew
        have hBd := Lib.hid (below_drewN hB 1)
        have e9 : IntKind.i64.wrap ((q : Int) - 1) = (q : Int) - 1 := IntWalk.i64_in _ (by omega)
        go_region_held3 (fun w' => w'.cell? ⟨w.heap.size, 0, none⟩ = some (.int .i64 sz) ∧ w'.cell? ⟨w.heap.size, 1, none⟩ = some (.int .i64 mn) ∧ w'.cell? ⟨w.heap.size, 2, none⟩ = some (.int .i64 rs))
          (first | go_keep | with_reducible exact ⟨y90, y91, y92⟩ | with_reducible exact ⟨y80, y81, y82⟩)
          (first
            | (go_at_call 153; have hF8' := hF8; with_reducible refine (hC2.out q (by omega) (by omega) _).mono ?_; rintro e w9 ⟨rfl, B9⟩; have ho9 := own_below ho8 B9; have hF9 := hFk.out _ _ hF8 B9; have hB9 := below_next hB8 B9; have hz9 := Nat.le_trans hz8 B9.size; obtain ⟨y90, y91, y92⟩ := hFa.out _ hF9)
            | (go_at_call 153; refine (hCl.out i (by omega) _).mono ?_; rintro e w8 ⟨rfl, B8⟩; have ho8 := own_below hod.out B8; have hF8 := hFk.out _ _ hFd.out B8; have hB8 := below_next hBd.out B8; have hz8 : w.heap.size + 1 ≤ w8.heap.size := Nat.le_trans hz B8.size; obtain ⟨y80, y81, y82⟩ := hFa.out _ hF8))
        clear y0 y1 y2 y80 y81 y82 y90 y91 y92 hown hF hB hz ho8 hF8 hB8 hz8 hFd hod hBd B8 B9
        by_cases hcl : CL i = CL (q - 1)
        · have hG3 := Lib.hid (show acc ++ GL q = GL 0 by have h := hG2.out; rw [if_neg (by simpa using hcl), List.nil_append] at h; exact h)
          have hb : (CL i != CL (q - 1)) = false := by simp [hcl]
          clear hG2 hcl
          go_wp2
          go_roundw
          case rel => exact ⟨q, m, acc, hle, rfl, by omega, ho9, hF9, hB9, hz9, hG3⟩
          case measure => simp [intOf]; omega
        · have hG3 := Lib.hid (show (acc ++ [(i, q)]) ++ GL q = GL 0 by have h := hG2.out; rw [if_pos (by simpa using hcl), ← List.append_assoc] at h; exact h)
          have hb : (CL i != CL (q - 1)) = true := by simp [hcl]
          clear hG2 hcl
          go_wp2_with (at_builtin; refine wpList_app rfl (.tmp 41) (.tmp 45) 123 rfl Tryz.underlying123 info_group rfl (by omega) (by omega) ho9 rfl rfl (by first | rfl | (simp; done)) rfl (by simp [Value.oneCell']) (by omega) hz9 ?_; intro v6 w6 hown6 hg6)
          have hB6 := below_own hB9 ho9 hg6 (by omega) (by omega)
          have hF6 := hFg.out _ _ _ _ _ hF9 ho9 hg6
          have hz6 := Nat.le_trans hz9 hg6.size
          have ho6 : w6.ownsRow (w.heap.size + 1) 126 2 v6 (m + 1) ((acc ++ [(i, q)]).flatMap grE) := by rw [flat_snocG]; exact hown6
          clear hown6 hg6 ho9 hF9 hB9 hz9
          go_wp2
          go_roundw
          case rel => exact ⟨q, m + 1, _, hle, rfl, by omega, ho6, hF6, hB6, hz6, hG3⟩
          case measure => simp [intOf]; omega
    · obtain rfl : i = n := by omega
      have hfin : acc = GV := by have h := hG.out; rw [hGe.out _ (by rw [hl.out]; exact Nat.le_refl _), List.append_nil] at h; rw [h, hV.out]
      subst hfin
      have hlen := own_len grE_len (by decide) hown
      subst hlen
      have hr := RN.of_own grE_len hown rfl (by omega)
      go_wp2
      go_ret
      exact ⟨A5, c5, rfl, hr, hB⟩
end Go.Proofs.YtjafcnblgeibpaaGreatDoor
