/- tumbref1.placed, tumbref1.FinalsOf. -/
import Derived.Test.YtklggnglaeagpaaGreatDoorPGoneC
import Derived.Test.YtklggnglaeagpaaGreatDoorPP23
import Derived.Deep.QuietTactic
import Derived.Deep.DeepCutAuto
import Derived.Deep.CutBlock
import Derived.BigQuiet
import Derived.BigGuardPart
import Derived.BigRegion
namespace Go.Proofs.YtklggnglaeagpaaGreatDoor
open Go.RowKit Go.Shelf Go.Lib Go.Sort
set_option linter.unusedVariables false

theorem cls_ref (f : Fl) (hf : FlOk f) (i : Nat) : (0 ≤ cls f i ↔ (i : Int) < f.sz * f.mn + f.rs) ∧ (0 ≤ cls f i → cls f i = if f.mn < (i : Int) / f.sz + 1 then 0 else (i : Int) / f.sz + 1) := by
  obtain ⟨⟨p0, p1⟩, ⟨p2, p3⟩, p4, p5⟩ := hf
  have q0 : 0 ≤ (i : Int) / f.sz := Int.ediv_nonneg (by omega) (by omega)
  have h1 : (i : Int) < f.sz * f.mn ↔ (i : Int) / f.sz < f.mn := by
    rw [Int.mul_comm]
    exact (Int.ediv_lt_iff_lt_mul (by omega)).symm
  unfold cls
  generalize f.sz * f.mn = m at *
  generalize (i : Int) / f.sz = d at *
  constructor
  · split
    · constructor <;> omega
    · split <;> constructor <;> omega
  · split
    · intro _; rw [if_neg (by omega)]
    · split
      · intro _; rw [if_pos (by omega)]
      · intro h; omega
/-- what is carried beside the place under way -/
structure PlK (w : World) (FB : World → Prop) (u : Value) (m : Nat) (acc : List Pc) (wx : World) : Prop where
  o : wx.ownsRow (w.heap.size + 1) 144 3 u m (acc.flatMap pcE)
  fb : FB wx
  bel : Below w.heap.size w wx
  z : w.heap.size + 1 ≤ wx.heap.size
theorem PlK.set {w wx : World} {f : Fl} {u : Value} {m : Nat} {acc : List Pc} (h : PlK w (FinB w.heap.size f) u m acc wx) {b : Nat} (hb : w.heap.size < b) (hne : ∀ i, u.ownBlock = some i → i ≠ b) (j : Nat) (v : Value) : PlK w (FinB w.heap.size f) u m acc (wx.setCell ⟨b, j, none⟩ v) := by
  have hg : wx.grownBy (wx.setCell ⟨b, j, none⟩ v) (some b) := grown_setCell (grown_refl wx _) (.inl rfl) _
  exact ⟨h.o.kept hg (by by_cases e : u.ownBlock = some b; exact absurd rfl (hne b e); exact .inr e), blk_other h.fb (by show w.heap.size ≠ b; omega) v, Below.setCell h.bel (by show w.heap.size ≤ b; omega) _, Nat.le_trans h.z hg.size⟩
set_option maxHeartbeats 6400000 in
set_option maxRecDepth 100000 in
theorem placed_c (f : Fl) (hf : FlOk f) (A : Option Addr) (n c : Nat) (l : List Sd) (w : World) (h : RSd w A n l) (hn : n ≤ 500) :
    Calls Tryz.prog 269 #[f.val, .slice A n c] w fun e w' => ∃ A' n' c', e = .returned (.slice A' n' c') ∧ w'.ownsRow (w.heap.size + 1) 144 3 (.slice A' n' c') n' ((plc f l 0 l).flatMap pcE) ∧ n' ≤ n ∧ Below w.heap.size w w' := by
  have hl := Lib.hid h.len
  have hPa := Lib.hid (fun k x (hx : l[k]? = some x) => plc_at (f := f) (L := l) hx)
  have hP0 := Lib.hid (fun k => show plc f l k [] = [] from rfl)
  have hCr := Lib.hid (fun i => cls_ref f hf i)
  have hRk := Lib.hid (fun t => show rnkS l t = 1 + (fasterN t l : Int) from rfl)
  have hF0 : FinB w.heap.size f (w.alloc (.cells f.cells 128)) := heap_alloc_new w _
  have hB0 := below_new w (.cells f.cells 128)
  have hFk := Lib.hid (fun a v (h : FinB w.heap.size f a) B => FinB.keep a v h B)
  have hFa := Lib.hid (fun v (h : FinB w.heap.size f v) => h.at_)
  have hFg := Lib.hid (fun (a v : World) (u : Value) (n : Nat) (xs : List Value) (h : FinB w.heap.size f a) (ho : a.ownsRow (w.heap.size + 1) 144 3 u n xs) (hg : a.grownBy v u.ownBlock) => show FinB w.heap.size f v from blk_grown h hg (fun e => by have := own_row_lt ho _ e.symm; omega))
  have hz0 : w.heap.size + 1 ≤ (w.alloc (.cells f.cells 128)).heap.size := by simp
  generalize plc f l = PL at *
  generalize cls f = CL at *
  generalize rnkS l = RK at *
  obtain ⟨sz, mn, rs⟩ := f
  obtain ⟨⟨p0, p1⟩, ⟨p2, p3⟩, p4, p5⟩ := hf
  dsimp only [Fl.val, Fl.cells] at *
  have hKs := Lib.hid (fun (wx : World) (u : Value) (m : Nat) (acc : List Pc) (h : PlK w (FinB w.heap.size ⟨sz, mn, rs⟩) u m acc wx) (b : Nat) (hb : w.heap.size < b) (hne : ∀ i, u.ownBlock = some i → i ≠ b) (j : Nat) (v : Value) => h.set hb hne j v)
  generalize FinB w.heap.size ⟨sz, mn, rs⟩ = FB at *
  have hm1 : sz * mn ≤ 10 * 5 := Int.mul_le_mul p1 p3 (by omega) (by omega)
  have hm0 : 0 ≤ sz * mn := Int.mul_nonneg (by omega) (by omega)
  have e1 : IntKind.i64.wrap (sz * mn) = sz * mn := IntWalk.i64_in _ (by generalize sz * mn = q at *; omega)
  have e2 : IntKind.i64.wrap (sz * mn + rs) = sz * mn + rs := IntWalk.i64_in _ (by generalize sz * mn = q at *; omega)
  have e6 : (sz == 0) = false := beq_eq_false_iff_ne.2 (by omega)
  have hR := Lib.hid (fun W B => h.below (w' := W) B)
  clear h
  go_enter Tryz.func269, Tryz.ntmps269
  go_wp2_with fail
  go_loopw [5, 6, 8, 14] (fun u _ _ i wr => ∃ (k m : Nat) (acc : List Pc), k ≤ n ∧ i = .int .i64 k ∧ m ≤ k ∧ wr.ownsRow (w.heap.size + 1) 144 3 u m (acc.flatMap pcE) ∧ FB wr ∧ Below w.heap.size w wr ∧ w.heap.size + 1 ≤ wr.heap.size ∧ Hid (acc ++ PL k (l.drop k) = PL 0 l)) (fun _ _ _ i _ => n - (intOf i).toNat)
  case atStart => exact ⟨0, 0, [], Nat.zero_le _, rfl, Nat.le_refl _, World.ownsRow_nil _ _ _ _, hF0, hB0, hz0, Lib.hid rfl⟩
  case round =>
    clear hF0 hB0 hz0
    rename World => wr
    obtain ⟨k, m, acc, hk, rfl, hmk, hown, hF, hB, hz, hG⟩ := hrel
    obtain ⟨A5, c5, rfl⟩ := own_shape hown
    by_cases hlt : k < n
    · obtain ⟨b, off, x, rfl, hbl, hx, c0, c1⟩ := RSd_at2 (hR.out _ hB) hlt
      have hG2 := Lib.hid (show acc ++ ((if 0 ≤ CL k then [⟨x.who, CL k, RK x.time⟩] else []) ++ PL (k + 1) (l.drop (k + 1))) = PL 0 l by rw [← hG.out, hPa.out k x hx])
      have hRt := Lib.hid (hRk.out x.time)
      obtain ⟨who, time⟩ := x
      dsimp only at *
      have hb5 := heap_alloc_new wr (.cells #[.string who, .int .i64 time] 40)
      have hown5 := hown.alloc (.cells #[.string who, .int .i64 time] 40)
      have hF5 := hFk.out _ _ hF (below_new wr (.cells #[.string who, .int .i64 time] 40))
      have hB5 := hB.alloc hB.size (.cells #[.string who, .int .i64 time] 40)
      have hz5 : w.heap.size + 1 ≤ (wr.alloc (.cells #[.string who, .int .i64 time] 40)).heap.size := by simp; omega
      clear hx hG
      go_upto_block 2 with (fail)
      generalize wr.alloc (.cells #[.string who, .int .i64 time] 40) = w5 at *
      generalize wr.heap.size = b7 at *
      have hR5 := Lib.hid (fun W (B : Below w5.heap.size w5 W) => hR.out W (below_next hB5 B))
      clear hown hF hB hz c0 c1
      go_cut [8] (fun s8 wx => s8 = .int .i64 (RK time) ∧ Below w5.heap.size w5 wx)
      case first =>
        have y1 := (blk_facts hb5).1 1
        go_wp2_with fail
        go_loopw [8, 21] (fun cv iv wx => ∃ (j : Nat) (v : Int), j ≤ n ∧ iv = .int .i64 j ∧ cv = .int .i64 v ∧ 1 ≤ v ∧ v ≤ j + 1 ∧ Below w5.heap.size w5 wx ∧ Hid (v = 1 + (fasterN time (l.take j) : Int))) (fun _ iv _ => n - (intOf iv).toNat)
        case atStart => exact ⟨0, 1, Nat.zero_le _, rfl, rfl, by omega, by omega, Below.refl _ _, Lib.hid rfl⟩
        case round =>
          rename World => wx
          obtain ⟨j, v, hj, rfl, rfl, v0, v1, hB, hcv⟩ := hrel
          by_cases hlj : j < n
          · obtain ⟨b2, off2, x2, hA2, _, hx2, d0, d1⟩ := RSd_at2 (hR5.out _ hB) hlj
            injection hA2 with hA2
            injection hA2 with q1 q2
            subst q1 q2
            have hst := Lib.hid (show (fasterN time (l.take (j + 1)) : Int) = fasterN time (l.take j) + (if x2.time < time then 1 else 0 : Nat) by rw [List.take_add_one, hx2]; rw [show (some x2).toList = [x2] from rfl, faster_snoc]; push_cast; rfl)
            obtain ⟨who2, t2⟩ := x2
            dsimp only at *
            have z1 := (blk_facts (heap_alloc_new wx (.cells #[.string who2, .int .i64 t2] 40))).1 1
            have hbx := blk_below hb5 (below_next hB (below_new wx (.cells #[.string who2, .int .i64 t2] 40)))
            have z2 := (blk_facts hbx).1 1
            have hB6 := below_next hB (below_new wx (.cells #[.string who2, .int .i64 t2] 40))
            have e9 : IntKind.i64.wrap (v + 1) = v + 1 := IntWalk.i64_in _ (by omega)
            clear hx2 hB hbx
            by_cases h1 : t2 < time
            · have hc2 := Lib.hid (show v + 1 = 1 + (fasterN time (l.take (j + 1)) : Int) by rw [hst.out, if_pos h1, hcv.out]; push_cast; omega)
              clear hcv hst
              go_wp2
              go_roundw
              case rel => exact ⟨j + 1, v + 1, by omega, by go_num, rfl, by omega, by omega, hB6, hc2⟩
              case measure => simp [intOf]; omega
            · have hc2 := Lib.hid (show v = 1 + (fasterN time (l.take (j + 1)) : Int) by rw [hst.out, if_neg h1, hcv.out]; push_cast; omega)
              clear hcv hst
              go_wp2
              go_roundw
              case rel => exact ⟨j + 1, v, by omega, by go_num, rfl, by omega, by omega, hB6, hc2⟩
              case measure => simp [intOf]; omega
          · obtain rfl : j = n := by omega
            have hvf := Lib.hid (show v = RK time by rw [hcv.out, hRt.out, List.take_of_length_le (by rw [hl.out]; exact Nat.le_refl _)])
            clear hcv
            go_wp2
            go_meet
            case rel => exact ⟨by rw [hvf.out], hB⟩
      case rest =>
        obtain ⟨rfl, hB6⟩ := hcut
        rename World => w6
        have hb6 := blk_below hb5 hB6
        have hown6 := own_below hown5 hB6
        have hF6 := hFk.out _ _ hF5 hB6
        have hBw := below_next hB5 hB6
        have hz6 := Nat.le_trans hz5 hB6.size
        clear hb5 hown5 hF5 hB5 hz5 hR5 hB6 hRt
        have lb7 := lt_of_heap hb6
        generalize RK time = R at *
        have y0 := (blk_facts hb6).1 0
        obtain ⟨z0, z1, z2⟩ := hFa.out _ hF6
        have q0 : 0 ≤ (k : Int) / sz := Int.ediv_nonneg (by omega) (by omega)
        have q1 : (k : Int) / sz ≤ k := Int.ediv_le_self _ (by omega)
        have e3 : (k : Int).tdiv sz = (k : Int) / sz := Int.tdiv_eq_ediv_of_nonneg (by omega)
        have e4 : IntKind.i64.wrap ((k : Int) / sz) = (k : Int) / sz := IntWalk.i64_in _ (by omega)
        have e5 : IntKind.i64.wrap ((k : Int) / sz + 1) = (k : Int) / sz + 1 := IntWalk.i64_in _ (by omega)
        have hs0 : ¬ sz = 0 := by omega
        have hl0 : w.heap.size < w6.heap.size := by omega
        go_wp2_with fail
        go_region_held3 (fun w' => w'.cell? ⟨b7, 0, none⟩ = some (.string who) ∧ w'.cell? ⟨w.heap.size, 0, none⟩ = some (.int .i64 sz)) (go_keep) (fail)
        have hn9 := heap_alloc_new w6 (.cells #[.string who, .int .i64 ((k : Int) / sz + 1), .int .i64 R] 144)
        have K7 : PlK w FB (.slice A5 m c5) m acc (w6.alloc (.cells #[.string who, .int .i64 ((k : Int) / sz + 1), .int .i64 R] 144)).drew :=
          ⟨(hown6.alloc _).drew, hFk.out _ _ hF6 (below_drewN (below_new w6 _) 1), below_drewN (below_next hBw (below_new w6 _)) 1, by show w.heap.size + 1 ≤ (w6.alloc _).heap.size; simp; omega⟩
        have hn9d : (w6.alloc (.cells #[.string who, .int .i64 ((k : Int) / sz + 1), .int .i64 R] 144)).drew.heap[w6.heap.size]? = some (.cells #[.string who, .int .i64 ((k : Int) / sz + 1), .int .i64 R] 144 (0, 0)) := hn9
        have hne9 : ∀ i, (Value.slice A5 m c5).ownBlock = some i → i ≠ w6.heap.size := fun i hi => by have := (hown6.lt i hi).2; omega
        have hb9 : w.heap.size < w6.heap.size := hl0
        have hsz9 : w6.heap.size < (w6.alloc (.cells #[.string who, .int .i64 ((k : Int) / sz + 1), .int .i64 R] 144)).drew.heap.size := by show w6.heap.size < (w6.alloc _).heap.size; simp
        obtain ⟨hcr1, hcr2⟩ := hCr.out k
        clear hn9 hown6 hF6 hBw hz6 y0 z0 z1 z2 hb6 lb7
        generalize (w6.alloc (.cells #[.string who, .int .i64 ((k : Int) / sz + 1), .int .i64 R] 144)).drew = w7 at *
        generalize w6.heap.size = b9 at *
        obtain ⟨z0, z1, z2⟩ := hFa.out _ K7.fb
        have x1 := (blk_facts hn9d).1 1
        have f1 := (blk_facts hn9d).2 1
        by_cases hA : (k : Int) < sz * mn + rs
        · have hin := hcr1.2 hA
          have hcv := hcr2 hin
          by_cases hm9 : mn < (k : Int) / sz + 1
          · rw [if_pos hm9] at hcv
            have hG3 := Lib.hid (show (acc ++ [⟨who, CL k, R⟩]) ++ PL (k + 1) (l.drop (k + 1)) = PL 0 l by have h := hG2.out; rw [if_pos hin] at h; rw [List.append_assoc]; exact h)
            rw [hcv] at hG3
            have K8 := hKs.out _ _ _ _ K7 b9 hb9 hne9 1 (.int .i64 0)
            have hx8 := blk_set hn9d 1 (.int .i64 0)
            have x80 := (blk_facts hx8).1 0
            have x81 := (blk_facts hx8).1 1
            have x82 := (blk_facts hx8).1 2
            obtain ⟨z80, z81, z82⟩ := hFa.out _ K8.fb
            clear hcv hcr1 hcr2 hG2 hin hn9d hx8 hne9 K7
            go_wp2_with (at_builtin; refine wpList_app rfl (.tmp 58) (.tmp 60) 133 rfl Tryz.underlying133 info_place rfl (by omega) (by omega) K8.o rfl rfl (by first | rfl | (simp; done)) rfl (by simp [Value.oneCell']) (by omega) K8.z ?_; intro v9 w9 ho9 hg9)
            have K9 : PlK w FB v9 (m + 1) (acc ++ [(⟨who, 0, R⟩ : Pc)]) w9 := ⟨by rw [flat_snocP]; exact ho9, hFg.out _ _ _ _ _ K8.fb K8.o hg9, below_own K8.bel K8.o hg9 (by have := K8.z; omega) (by omega), Nat.le_trans K8.z hg9.size⟩
            clear ho9 hg9 K8
            go_wp2
            go_roundw
            case rel => exact ⟨k + 1, m + 1, _, by omega, by go_num, by omega, K9.o, K9.fb, K9.bel, K9.z, hG3⟩
            case measure => simp [intOf]; omega
          · rw [if_neg hm9] at hcv
            have hG3 := Lib.hid (show (acc ++ [⟨who, CL k, R⟩]) ++ PL (k + 1) (l.drop (k + 1)) = PL 0 l by have h := hG2.out; rw [if_pos hin] at h; rw [List.append_assoc]; exact h)
            rw [hcv] at hG3
            have x0 := (blk_facts hn9d).1 0
            have x2 := (blk_facts hn9d).1 2
            clear hcv hcr1 hcr2 hG2 hin hn9d hne9
            go_wp2_with (at_builtin; refine wpList_app rfl (.tmp 58) (.tmp 60) 133 rfl Tryz.underlying133 info_place rfl (by omega) (by omega) K7.o rfl rfl (by first | rfl | (simp; done)) rfl (by simp [Value.oneCell']) (by omega) K7.z ?_; intro v9 w9 ho9 hg9)
            have K9 : PlK w FB v9 (m + 1) (acc ++ [(⟨who, (k : Int) / sz + 1, R⟩ : Pc)]) w9 := ⟨by rw [flat_snocP]; exact ho9, hFg.out _ _ _ _ _ K7.fb K7.o hg9, below_own K7.bel K7.o hg9 (by have := K7.z; omega) (by omega), Nat.le_trans K7.z hg9.size⟩
            clear ho9 hg9 K7
            go_wp2
            go_roundw
            case rel => exact ⟨k + 1, m + 1, _, by omega, by go_num, by omega, K9.o, K9.fb, K9.bel, K9.z, hG3⟩
            case measure => simp [intOf]; omega
        · have hin : ¬ 0 ≤ CL k := fun h => hA (hcr1.1 h)
          have hm9 : mn < (k : Int) / sz + 1 := by
            have h1 : mn * sz ≤ k := by rw [Int.mul_comm]; omega
            have := (Int.le_ediv_iff_mul_le (c := sz) (a := mn) (b := k) (by omega)).2 h1
            omega
          have hG3 := Lib.hid (show acc ++ PL (k + 1) (l.drop (k + 1)) = PL 0 l by have h := hG2.out; rw [if_neg hin, List.nil_append] at h; exact h)
          have K8 := hKs.out _ _ _ _ K7 b9 hb9 hne9 1 (.int .i64 0)
          obtain ⟨z80, z81, z82⟩ := hFa.out _ K8.fb
          clear hcr1 hcr2 hG2 hin hn9d hne9 K7
          go_wp2
          go_roundw
          case rel => exact ⟨k + 1, m, acc, by omega, by go_num, by omega, K8.o, K8.fb, K8.bel, K8.z, hG3⟩
          case measure => simp [intOf]; omega
    · obtain rfl : k = n := by omega
      have hfin : acc = PL 0 l := by have h := hG.out; rw [drop_end (by rw [hl.out]; exact Nat.le_refl _), hP0.out, List.append_nil] at h; exact h
      subst hfin
      go_wp2
      go_ret
      exact ⟨A5, m, c5, rfl, hown, hmk, hB⟩
end Go.Proofs.YtklggnglaeagpaaGreatDoor
