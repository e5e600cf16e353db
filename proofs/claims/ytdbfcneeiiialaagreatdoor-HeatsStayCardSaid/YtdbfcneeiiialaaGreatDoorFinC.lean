/- heat.CheckFinal, heat.Finals: who swims which final. -/
import Derived.Test.YtdbfcneeiiialaaGreatDoorDelC
import Derived.Test.YtdbfcneeiiialaaGreatDoorSizeM
import Derived.Deep.RegionHeld3
namespace Go.Proofs.YtdbfcneeiiialaaGreatDoor
open Go.RowKit
set_option linter.unusedVariables false

structure Fl where
  sz : Int
  mn : Int
  rs : Int
def Fl.val (f : Fl) : Value := .agg #[.int .i64 f.sz, .int .i64 f.mn, .int .i64 f.rs]
def Fl.cells (f : Fl) : Array Value := #[.int .i64 f.sz, .int .i64 f.mn, .int .i64 f.rs]
def FlOk (f : Fl) : Prop := (1 ≤ f.sz ∧ f.sz ≤ 10) ∧ (1 ≤ f.mn ∧ f.mn ≤ 5) ∧ (0 ≤ f.rs ∧ f.rs ≤ 10)
instance (f : Fl) : Decidable (FlOk f) := by unfold FlOk; infer_instance
def finErr (f : Fl) : Int := if FlOk f then 0 else 1
theorem finErr_ok {f : Fl} (h : finErr f = 0) : FlOk f := by
  unfold finErr at h
  split at h
  · assumption
  · cases h
def FinB (b : Nat) (f : Fl) (v : World) : Prop := v.heap[b]? = some (.cells f.cells 135 (0, 0))
theorem FinB.keep {b : Nat} {f : Fl} (a v : World) (h : FinB b f a) (B : Below a.heap.size a v) : FinB b f v := blk_below h B
theorem FinB.at_ {b : Nat} {f : Fl} {v : World} (h : FinB b f v) : v.cell? ⟨b, 0, none⟩ = some (.int .i64 f.sz) ∧ v.cell? ⟨b, 1, none⟩ = some (.int .i64 f.mn) ∧ v.cell? ⟨b, 2, none⟩ = some (.int .i64 f.rs) :=
  ⟨(blk_facts h).1 0, (blk_facts h).1 1, (blk_facts h).1 2⟩
set_option maxHeartbeats 1600000 in
theorem checkFinal_c (f : Fl) (w : World) : Calls Tryz.prog 158 #[f.val] w fun e w' => e = .returned (.int .i64 (finErr f)) ∧ Below w.heap.size w w' := by
  have hE0 := Lib.hid (fun h => show finErr f = 0 from if_pos h)
  have hE1 := Lib.hid (fun h => show finErr f = 1 from if_neg h)
  generalize finErr f = E at *
  obtain ⟨sz, mn, rs⟩ := f
  simp only [FlOk, Fl.val] at *
  have hz := (blk_facts (heap_alloc_new w (.cells #[.int .i64 sz, .int .i64 mn, .int .i64 rs] 135))).1
  have hB := below_new w (.cells #[.int .i64 sz, .int .i64 mn, .int .i64 rs] 135)
  have z0 := hz 0
  have z1 := hz 1
  have z2 := hz 2
  clear hz
  by_cases c0 : 1 ≤ sz ∧ sz ≤ 10
  rotate_left
  · obtain rfl := hE1.out (fun h => c0 h.1)
    have d0 : decide (1 ≤ sz ∧ sz ≤ 10) = false := decide_eq_false c0
    clear hE0 hE1 c0
    go_enter Tryz.func158, Tryz.ntmps158
    go_wp2_with (go_at_call 98; refine (within_c _ _ _ _).mono ?_; rintro e w' ⟨rfl, rfl⟩; rw [d0])
    go_ret
    exact ⟨rfl, hB⟩
  have d0 : decide (1 ≤ sz ∧ sz ≤ 10) = true := decide_eq_true c0
  by_cases c1 : 1 ≤ mn ∧ mn ≤ 5
  rotate_left
  · obtain rfl := hE1.out (fun h => c1 h.2.1)
    have d1 : decide (1 ≤ mn ∧ mn ≤ 5) = false := decide_eq_false c1
    clear hE0 hE1 c0 c1
    go_enter Tryz.func158, Tryz.ntmps158
    go_wp2_with (go_at_call 98; refine (within_c _ _ _ _).mono ?_; rintro e w' ⟨rfl, rfl⟩; first | rw [d0] | rw [d1])
    go_ret
    exact ⟨rfl, hB⟩
  have d1 : decide (1 ≤ mn ∧ mn ≤ 5) = true := decide_eq_true c1
  by_cases c2 : 0 ≤ rs ∧ rs ≤ 10
  rotate_left
  · obtain rfl := hE1.out (fun h => c2 h.2.2)
    have d2 : decide (0 ≤ rs ∧ rs ≤ 10) = false := decide_eq_false c2
    clear hE0 hE1 c0 c1 c2
    go_enter Tryz.func158, Tryz.ntmps158
    go_wp2_with (go_at_call 98; refine (within_c _ _ _ _).mono ?_; rintro e w' ⟨rfl, rfl⟩; first | rw [d0] | rw [d1] | rw [d2])
    go_ret
    exact ⟨rfl, hB⟩
  have d2 : decide (0 ≤ rs ∧ rs ≤ 10) = true := decide_eq_true c2
  obtain rfl := hE0.out ⟨c0, c1, c2⟩
  clear hE0 hE1 c0 c1 c2
  go_enter Tryz.func158, Tryz.ntmps158
  go_wp2_with (go_at_call 98; refine (within_c _ _ _ _).mono ?_; rintro e w' ⟨rfl, rfl⟩; first | rw [d0] | rw [d1] | rw [d2])
  go_ret
  exact ⟨rfl, hB⟩
/-- what number i swims -/
def cls (f : Fl) (i : Nat) : Int := if (i : Int) < f.sz * f.mn then (i : Int) / f.sz + 1 else if (i : Int) < f.sz * f.mn + f.rs then 0 else -1
theorem class_c (f : Fl) (hf : FlOk f) (i : Nat) (hi : i ≤ 1000) (w : World) : Calls Tryz.prog 224 #[f.val, .int .i64 i] w fun e w' => e = .returned (.int .i64 (cls f i)) ∧ Below w.heap.size w w' := by
  have hC := Lib.hid (show cls f i = if (i : Int) < f.sz * f.mn then (i : Int) / f.sz + 1 else if (i : Int) < f.sz * f.mn + f.rs then 0 else -1 from rfl)
  generalize cls f i = C at *
  obtain ⟨sz, mn, rs⟩ := f
  obtain ⟨⟨p0, p1⟩, ⟨p2, p3⟩, p4, p5⟩ := hf
  dsimp only [Fl.val] at *
  have hm1 : sz * mn ≤ 10 * 5 := Int.mul_le_mul p1 p3 (by omega) (by omega)
  have hm0 : 0 ≤ sz * mn := Int.mul_nonneg (by omega) (by omega)
  have e1 : IntKind.i64.wrap (sz * mn) = sz * mn := IntWalk.i64_in _ (by generalize sz * mn = q at *; omega)
  have e2 : IntKind.i64.wrap (sz * mn + rs) = sz * mn + rs := IntWalk.i64_in _ (by generalize sz * mn = q at *; omega)
  have q0 : 0 ≤ (i : Int) / sz := Int.ediv_nonneg (by omega) (by omega)
  have q1 : (i : Int) / sz ≤ i := Int.ediv_le_self _ (by omega)
  have e3 : (i : Int).tdiv sz = (i : Int) / sz := Int.tdiv_eq_ediv_of_nonneg (by omega)
  have e4 : IntKind.i64.wrap ((i : Int) / sz) = (i : Int) / sz := IntWalk.i64_in _ (by omega)
  have e5 : IntKind.i64.wrap ((i : Int) / sz + 1) = (i : Int) / sz + 1 := IntWalk.i64_in _ (by omega)
  have e6 : (sz == 0) = false := beq_eq_false_iff_ne.2 (by omega)
  have hz := (blk_facts (heap_alloc_new w (.cells #[.int .i64 sz, .int .i64 mn, .int .i64 rs] 135))).1
  have hB := below_new w (.cells #[.int .i64 sz, .int .i64 mn, .int .i64 rs] 135)
  have z0 := hz 0
  have z1 := hz 1
  have z2 := hz 2
  clear hz
  by_cases c0 : (i : Int) < sz * mn
  · obtain rfl : C = (i : Int) / sz + 1 := by rw [hC.out, if_pos c0]
    clear hC
    go_enter Tryz.func224, Tryz.ntmps224
    go_wp2
    go_ret
    exact ⟨rfl, hB⟩
  · by_cases c1 : (i : Int) < sz * mn + rs
    · obtain rfl : C = 0 := by rw [hC.out, if_neg c0, if_pos c1]
      clear hC
      go_enter Tryz.func224, Tryz.ntmps224
      go_wp2
      go_ret
      exact ⟨rfl, hB⟩
    · obtain rfl : C = -1 := by rw [hC.out, if_neg c0, if_neg c1]
      clear hC
      go_enter Tryz.func224, Tryz.ntmps224
      go_wp2
      go_ret
      exact ⟨rfl, hB⟩
/-- 1 and how many of a list are faster -/
def fasterN (t : Int) (L : List Sd) : Nat := (L.filter fun y => decide (y.time < t)).length
def rnkS (L : List Sd) (t : Int) : Int := 1 + (fasterN t L : Int)
theorem faster_snoc (t : Int) (L : List Sd) (y : Sd) : fasterN t (L ++ [y]) = fasterN t L + if y.time < t then 1 else 0 := by
  unfold fasterN
  rw [List.filter_append, List.length_append]
  congr 1
  by_cases h : y.time < t
  · rw [if_pos h, List.filter_cons, if_pos (by simpa using h)]; rfl
  · rw [if_neg h, List.filter_cons, if_neg (by simpa using h)]; rfl
theorem faster_le (t : Int) (L : List Sd) : fasterN t L ≤ L.length := List.length_filter_le _ _
theorem seedRank_c (A : Option Addr) (n c : Nat) (l : List Sd) (t : Int) (w : World) (h : RSd w A n l) (hn : n ≤ 1000) :
    Calls Tryz.prog 225 #[.slice A n c, .int .i64 t] w fun e w' => e = .returned (.int .i64 (rnkS l t)) ∧ Below w.heap.size w w' := by
  have hl := Lib.hid h.len
  have hV := Lib.hid (show rnkS l t = 1 + (fasterN t l : Int) from rfl)
  generalize rnkS l t = V at *
  go_enter Tryz.func225, Tryz.ntmps225
  go_wp2
  go_loopw [5, 10] (fun cn i wr => ∃ (k : Nat) (cv : Int), k ≤ n ∧ i = .int .i64 k ∧ cn = .int .i64 cv ∧ 1 ≤ cv ∧ cv ≤ k + 1 ∧ Below w.heap.size w wr ∧ Hid (cv = 1 + (fasterN t (l.take k) : Int))) (fun _ i _ => n - (intOf i).toNat)
  case atStart => exact ⟨0, 1, Nat.zero_le _, rfl, rfl, by omega, by omega, Below.refl _ _, Lib.hid rfl⟩
  case round =>
    obtain ⟨k, cv, hk, rfl, rfl, v0, v1, hB, hcv⟩ := hrel
    by_cases hlt : k < n
    · obtain ⟨b, off, x, rfl, hbl, hx, c0, c1⟩ := RSd_at2 (h.below hB) hlt
      have hst := Lib.hid (show (fasterN t (l.take (k + 1)) : Int) = fasterN t (l.take k) + (if x.time < t then 1 else 0 : Nat) by rw [List.take_add_one, hx]; rw [show (some x).toList = [x] from rfl, faster_snoc]; push_cast; rfl)
      obtain ⟨who, time⟩ := x
      dsimp only at *
      have z1 := (blk_facts (heap_alloc_new wr (.cells #[.string who, .int .i64 time] 40))).1 1
      have hB5 := hB.alloc hB.size (.cells #[.string who, .int .i64 time] 40)
      have e1 : IntKind.i64.wrap (cv + 1) = cv + 1 := IntWalk.i64_in _ (by omega)
      clear hx hB
      by_cases h1 : time < t
      · have hc2 := Lib.hid (show cv + 1 = 1 + (fasterN t (l.take (k + 1)) : Int) by rw [hst.out, if_pos h1, hcv.out]; push_cast; omega)
        clear hcv hst
        go_wp2
        go_roundw
        case rel => exact ⟨k + 1, cv + 1, by omega, by go_num, rfl, by omega, by omega, hB5, hc2⟩
        case measure => simp [intOf]; omega
      · have hc2 := Lib.hid (show cv = 1 + (fasterN t (l.take (k + 1)) : Int) by rw [hst.out, if_neg h1, hcv.out]; push_cast; omega)
        clear hcv hst
        go_wp2
        go_roundw
        case rel => exact ⟨k + 1, cv, by omega, by go_num, rfl, by omega, by omega, hB5, hc2⟩
        case measure => simp [intOf]; omega
    · obtain rfl : k = n := by omega
      obtain rfl : V = cv := by rw [hV.out, hcv.out, List.take_of_length_le (by rw [hl.out]; exact Nat.le_refl _)]
      go_wp2
      go_ret
      exact ⟨rfl, hB⟩
structure Pc where
  who : ByteArray
  fin : Int
  rk : Int
def pcE (x : Pc) : List Value := [.string x.who, .int .i64 x.fin, .int .i64 x.rk]
theorem pcE_len : ∀ x, (pcE x).length = 3 := fun _ => rfl
abbrev RPc (w : World) (A : Option Addr) (n : Nat) (l : List Pc) : Prop := RN 3 pcE 141 w A n l
theorem RPc_at3 {w : World} {A : Option Addr} {n : Nat} {l : List Pc} (h : RPc w A n l) {k : Nat} (hk : k < n) : ∃ b off x, A = some ⟨b, off, none⟩ ∧ b < w.heap.size ∧ l[k]? = some x ∧ w.cell? ⟨b, off + k * 3, none⟩ = some (.string x.who) ∧ w.cell? ⟨b, off + k * 3 + 1, none⟩ = some (.int .i64 x.fin) ∧ w.cell? ⟨b, off + k * 3 + 2, none⟩ = some (.int .i64 x.rk) := by
  obtain ⟨b, off, x, hA, hb, hx, hc⟩ := h.at_ hk
  exact ⟨b, off, x, hA, hb, hx, hc 0 _ rfl, hc 1 _ rfl, hc 2 _ rfl⟩
theorem RSd_drewF {w : World} {A : Option Addr} {n : Nat} {l : List Sd} (h : RSd w A n l) : RSd w.drew A n l := h
theorem info_place : (Tryz.prog.info? 141).map (fun i => (i.zero, i.size, i.bytes)) = some (some (.agg #[.string ⟨#[]⟩, .int .i64 0, .int .i64 0]), 3, 32) := by kernel_rfl
/-- the places of swimmers in an order -/
def plc (f : Fl) (L : List Sd) : Nat → List Sd → List Pc
  | _, [] => []
  | i, x :: r => (if 0 ≤ cls f i then [⟨x.who, cls f i, rnkS L x.time⟩] else []) ++ plc f L (i + 1) r
theorem plc_at {f : Fl} {L l : List Sd} {k : Nat} {x : Sd} (h : l[k]? = some x) : plc f L k (l.drop k) = (if 0 ≤ cls f k then [⟨x.who, cls f k, rnkS L x.time⟩] else []) ++ plc f L (k + 1) (l.drop (k + 1)) := by rw [drop_at h]; rfl
theorem flat_snocP (l : List Pc) (x : Pc) : (l ++ [x]).flatMap pcE = l.flatMap pcE ++ pcE x := by rw [List.flatMap_append]; simp
set_option maxHeartbeats 3200000 in
set_option maxRecDepth 100000 in
theorem places_c (f : Fl) (hf : FlOk f) (A : Option Addr) (n c : Nat) (l : List Sd) (w : World) (h : RSd w A n l) (hn : n ≤ 500) :
    Calls Tryz.prog 156 #[f.val, .slice A n c] w fun e w' => ∃ A' n' c', e = .returned (.slice A' n' c') ∧ w'.ownsRow (w.heap.size + 1) 141 3 (.slice A' n' c') n' ((plc f l 0 l).flatMap pcE) ∧ n' ≤ n ∧ Below w.heap.size w w' := by
  have hl := Lib.hid h.len
  have hCl := Lib.hid (fun i hi W => class_c f hf i hi W)
  have hRk := Lib.hid (fun t W h => seedRank_c A n c l t W h (by omega))
  have hPa := Lib.hid (fun k x (hx : l[k]? = some x) => plc_at (f := f) (L := l) hx)
  have hP0 := Lib.hid (fun k => show plc f l k [] = [] from rfl)
  have hF0 : FinB w.heap.size f (w.alloc (.cells f.cells 135)) := heap_alloc_new w _
  have hB0 := below_new w (.cells f.cells 135)
  have hFk := Lib.hid (fun a v (h : FinB w.heap.size f a) B => FinB.keep a v h B)
  have hFa := Lib.hid (fun v (h : FinB w.heap.size f v) => h.at_)
  have hFd := Lib.hid (fun (v : World) (h : FinB w.heap.size f v) => show FinB w.heap.size f v.drew from h)
  have hFg := Lib.hid (fun (a v : World) (u : Value) (n : Nat) (xs : List Value) (h : FinB w.heap.size f a) (ho : a.ownsRow (w.heap.size + 1) 141 3 u n xs) (hg : a.grownBy v u.ownBlock) => show FinB w.heap.size f v from blk_grown h hg (fun e => by have := own_row_lt ho _ e.symm; omega))
  have hz0 : w.heap.size + 1 ≤ (w.alloc (.cells f.cells 135)).heap.size := by simp
  generalize plc f l = PL at *
  generalize cls f = CL at *
  generalize rnkS l = RK at *
  obtain ⟨sz, mn, rs⟩ := f
  dsimp only [Fl.val, Fl.cells] at *
  generalize FinB w.heap.size ⟨sz, mn, rs⟩ = FB at *
  have hR := Lib.hid (fun W B => h.below (w' := W) B)
  clear h
  go_enter Tryz.func156, Tryz.ntmps156
  go_wp2_with fail
  go_loopw [5, 11] (fun u i wr => ∃ (k m : Nat) (acc : List Pc), k ≤ n ∧ i = .int .i64 k ∧ m ≤ k ∧ wr.ownsRow (w.heap.size + 1) 141 3 u m (acc.flatMap pcE) ∧ FB wr ∧ Below w.heap.size w wr ∧ w.heap.size + 1 ≤ wr.heap.size ∧ Hid (acc ++ PL k (l.drop k) = PL 0 l)) (fun _ i _ => n - (intOf i).toNat)
  case atStart => exact ⟨0, 0, [], Nat.zero_le _, rfl, Nat.le_refl _, World.ownsRow_nil _ _ _ _, hF0, hB0, hz0, Lib.hid rfl⟩
  case round =>
    clear hF0 hB0 hz0
    obtain ⟨k, m, acc, hk, rfl, hmk, hown, hF, hB, hz, hG⟩ := hrel
    obtain ⟨A5, c5, rfl⟩ := own_shape hown
    by_cases hlt : k < n
    · obtain ⟨b, off, x, rfl, hbl, hx, c0, c1⟩ := RSd_at2 (hR.out _ hB) hlt
      have hG2 := Lib.hid (show acc ++ ((if 0 ≤ CL k then [⟨x.who, CL k, RK x.time⟩] else []) ++ PL (k + 1) (l.drop (k + 1))) = PL 0 l by rw [← hG.out, hPa.out k x hx])
      obtain ⟨who, time⟩ := x
      dsimp only at *
      have hb5 := heap_alloc_new wr (.cells #[.string who, .int .i64 time] 40)
      have hneB := fun i hi => (hown.lt i hi).2
      have hown5 := hown.alloc (.cells #[.string who, .int .i64 time] 40)
      have hF5 := hFk.out _ _ hF (below_new wr (.cells #[.string who, .int .i64 time] 40))
      have hB5 := hB.alloc hB.size (.cells #[.string who, .int .i64 time] 40)
      have hz5 : w.heap.size + 1 ≤ (wr.alloc (.cells #[.string who, .int .i64 time] 40)).heap.size := by simp; omega
      obtain ⟨y0, y1, y2⟩ := hFa.out _ hF5
      clear hx hG
      go_wp2_with fail
      refine (hCl.out k (by omega) _).mono ?_; rintro e w6 ⟨rfl, B6⟩
      have hb6 := blk_below hb5 B6
      have hown6 := own_below hown5 B6
      have hF6 := hFk.out _ _ hF5 B6
      have hB6 := below_next hB5 B6
      have hz6 := Nat.le_trans hz5 B6.size
      generalize CL k = C at *
      clear hb5 hown5 hF5 hB5 hz5 hown hF hB hz c0 c1 B6
      generalize wr.heap.size = b7 at *
      by_cases hC : 0 ≤ C
      rotate_left
      · have hG3 := Lib.hid (show acc ++ PL (k + 1) (l.drop (k + 1)) = PL 0 l by have h := hG2.out; rw [if_neg hC, List.nil_append] at h; exact h)
        clear hG2
        go_wp2
        go_roundw
        case rel => exact ⟨k + 1, m, acc, by omega, by go_num, by omega, hown6, hF6, hB6, hz6, hG3⟩
        case measure => simp [intOf]; omega
      · have hG3 := Lib.hid (show (acc ++ [⟨who, C, RK time⟩]) ++ PL (k + 1) (l.drop (k + 1)) = PL 0 l by have h := hG2.out; rw [if_pos hC] at h; rw [List.append_assoc]; exact h)
        have z0 := (blk_facts hb6).1 0
        have z1 := (blk_facts hb6).1 1
        have lb7 := lt_of_heap hb6
        clear hG2
        go_wp2_with fail
        obtain ⟨i0, hi0, hx0, hx1, hx2⟩ := info_parts info_place
        have hneS := hown6.lt
        have hr6 := hR.out _ hB6
        go_region_held3 (fun w' => w'.cell? ⟨b7, 0, none⟩ = some (.string who) ∧ w'.cell? ⟨b7, 1, none⟩ = some (.int .i64 time))
          (first | go_keep | with_reducible exact ⟨y80, y81⟩ | with_reducible exact ⟨q0, q1⟩)
          (first
            | (go_at_call 225; refine (hRk.out _ _ (RSd_drewF hr6)).mono ?_; rintro e w8 ⟨rfl, B8⟩; have hb8 := blk_below (w := World.drew _) hb6 B8; have y80 := (blk_facts hb8).1 0; have y81 := (blk_facts hb8).1 1; have hown8 := own_below hown6.drew B8; have hF8 := hFk.out _ _ (hFd.out _ hF6) B8; have hB8 := below_next (below_drewN hB6 1) B8; have hz8 := Nat.le_trans hz6 B8.size; have lb8 := lt_of_heap hb8; have hne8 := hown8.lt)
            | (refine step_append_lies _ (by rfl) _ _ _ (by rfl) (w.heap.size + 1) 141 i0 _ 3 32 Tryz.underlying136 hi0 hx0 hx1 hx2 rfl (by omega) _ m (acc.flatMap pcE) (by rfl) (hown8.alloc _) ⟨w8.heap.size, 0, none⟩ 1 1 [.string who, .int .i64 C, .int .i64 (RK time)] (by rfl) (by rfl) (World.news_of_block (cs := #[.string who, .int .i64 C, .int .i64 (RK time)]) (t := 141) (fr := (0, 0)) (heap_alloc_new w8 _)) (by simp [Value.oneCell']) (by omega) (by unfold maxLen; omega) (by omega) (by simp; omega) (w8.heap.size + 1) (by simp) ?_; intro gg cap w9 hown9 hgrow hat hlt9; have q0 := (hgrow.cell_far ⟨b7, 0, none⟩ (by simp; omega) (fun e => by have := hneB b7 e.symm; omega)).trans ((World.cell?_alloc_lt w8 _ ⟨b7, 0, none⟩ (by show b7 < w8.heap.size; omega)).trans y80); have q1 := (hgrow.cell_far ⟨b7, 1, none⟩ (by simp; omega) (fun e => by have := hneB b7 e.symm; omega)).trans ((World.cell?_alloc_lt w8 _ ⟨b7, 1, none⟩ (by show b7 < w8.heap.size; omega)).trans y81)))
        have hB9 := below_own (hB8.alloc hB8.size _) (hown8.alloc _) hgrow (by simp; omega) (by omega)
        have hF9 := hFg.out _ _ _ _ _ (hFk.out _ _ hF8 (below_new w8 _)) (hown8.alloc _) hgrow
        have hz9 : w.heap.size + 1 ≤ w9.heap.size := Nat.le_trans hz8 (Nat.le_trans (by simp) hgrow.size)
        have ho9 : w9.ownsRow (w.heap.size + 1) 141 3 (.slice (some ⟨gg, 0, none⟩) (m + 1) cap) (m + 1) ((acc ++ [(⟨who, C, RK time⟩ : Pc)]).flatMap pcE) := by rw [flat_snocP]; exact hown9
        clear hown9 hgrow hat hlt9 q0 q1 y80 y81 z0 z1 hi0 hx0 hx1 hx2 hown8 hF8 hB8 hz8 hown6 hF6 hB6 hz6 hneS hne8 hneB hr6 B8 hb8
        go_wp2
        go_roundw
        case rel => exact ⟨k + 1, m + 1, _, by omega, by go_num, by omega, ho9, hF9, hB9, hz9, hG3⟩
        case measure => simp [intOf]; omega
    · obtain rfl : k = n := by omega
      have hfin : acc = PL 0 l := by have h := hG.out; rw [drop_end (by rw [hl.out]; exact Nat.le_refl _), hP0.out, List.append_nil] at h; exact h
      subst hfin
      go_wp2
      go_ret
      exact ⟨A5, m, c5, rfl, hown, hmk, hB⟩
/-- heat.Finals of right seeds and right finals -/
def plcV (f : Fl) (l : List Sd) : List Pc := plc f (finL l) 0 (finL l)
set_option maxHeartbeats 1600000 in
theorem finals_c (f : Fl) (hf : FlOk f) (A : Option Addr) (n c : Nat) (l : List Sd) (w : World) (h : RSd w A n l) (hn : n ≤ 19) (h0 : seedErr l = 0) :
    Calls Tryz.prog 69 #[f.val, .slice A n c] w fun e w' => ∃ A' n' c', e = .returned (.tuple #[.slice A' n' c', .int .i64 0]) ∧ RPc w' A' n' (plcV f l) ∧ n' ≤ n ∧ Below w.heap.size w w' := by
  have hC := Lib.hid (fun W => checkFinal_c f W)
  have hCS := Lib.hid (fun W h => checkSeeds_c A n c l W h)
  rw [show finErr f = 0 from if_pos hf] at hC
  rw [h0] at hCS
  obtain ⟨_, hso⟩ := seedErr_ok h0
  have hFi := Lib.hid (fun W h => finished_c A n c l W h hn (fun x hx => (hso x hx).2))
  have hP := Lib.hid (fun A2 n2 c2 W h h2 => places_c f hf A2 n2 c2 (finL l) W h h2)
  have hPl := Lib.hid (show plcV f l = plc f (finL l) 0 (finL l) from rfl)
  have hCF : ∀ W, RSd W A n l → Calls Tryz.prog 155 #[f.val, .slice A n c] W fun e w' => e = .returned (.int .i64 0) ∧ Below W.heap.size W w' := by
    intro W hW
    have z0 : FinB W.heap.size f (W.alloc (.cells f.cells 135)) := heap_alloc_new W _
    have hB := below_new W (.cells f.cells 135)
    obtain ⟨y0, y1, y2⟩ := z0.at_
    have hWB := Lib.hid (fun v B => hW.below (w' := v) B)
    clear hW z0 hP hPl hFi h
    obtain ⟨sz, mn, rs⟩ := f
    dsimp only [Fl.val, Fl.cells] at *
    go_enter Tryz.func155, Tryz.ntmps155
    go_wp2_with fail
    refine (hC.out _).mono ?_; rintro e w1 ⟨rfl, B1⟩
    have hB1 := below_next hB B1
    go_wp2_with fail
    refine (hCS.out _ (hWB.out _ hB1)).mono ?_; rintro e w2 ⟨rfl, B2⟩
    have hB2 := below_next hB1 B2
    go_wp2
    go_ret
    exact ⟨rfl, hB2⟩
  have hCF' := Lib.hid hCF
  have hF0 : FinB w.heap.size f (w.alloc (.cells f.cells 135)) := heap_alloc_new w _
  have hB0 := below_new w (.cells f.cells 135)
  have hFk := Lib.hid (fun a v (h : FinB w.heap.size f a) B => FinB.keep a v h B)
  have hFa := Lib.hid (fun v (h : FinB w.heap.size f v) => h.at_)
  have hR := Lib.hid (fun W B => h.below (w' := W) B)
  clear hC hCS hCF hso h0 h
  generalize plcV f l = PV at *
  obtain ⟨sz, mn, rs⟩ := f
  dsimp only [Fl.val, Fl.cells] at *
  obtain ⟨y0, y1, y2⟩ := hFa.out _ hF0
  go_enter Tryz.func69, Tryz.ntmps69
  go_wp2_with fail
  refine (hCF'.out _ (hR.out _ hB0)).mono ?_; rintro e w1 ⟨rfl, B1⟩
  have hB1 := below_next hB0 B1
  have hF1 := hFk.out _ _ hF0 B1
  obtain ⟨y0, y1, y2⟩ := hFa.out _ hF1
  have hr1 := hR.out _ hB1
  clear hF0 hB0 B1
  go_wp2_with fail
  have hB1' := Lib.hid (fun v (B : Below w1.heap.size w1.drew v) => below_next (below_drewN hB1 1) B)
  go_region_held3 (fun w' => w'.cell? ⟨w.heap.size, 0, none⟩ = some (.int .i64 sz) ∧ w'.cell? ⟨w.heap.size, 1, none⟩ = some (.int .i64 mn) ∧ w'.cell? ⟨w.heap.size, 2, none⟩ = some (.int .i64 rs))
    (first | go_keep | with_reducible exact ⟨y30, y31, y32⟩ | with_reducible exact ⟨y20, y21, y22⟩)
    (first
      | (go_at_call 157; refine (hFi.out _ (RSd_drewF hr1)).mono ?_; rintro e w2 ⟨A2, n2, c2, rfl, ho2, hn2, B2⟩; have hB2 := hB1'.out _ B2; have hF2 := hFk.out _ _ (show FinB w.heap.size _ w1.drew from hF1) B2; obtain ⟨y20, y21, y22⟩ := hFa.out _ hF2; have hr2 := RN.of_own sdE_len ho2 (own_len sdE_len (by decide) ho2) (by omega))
      | (go_at_call 156; refine (hP.out _ _ _ _ hr2 (by omega)).mono ?_; rintro e w3 ⟨A3, n3, c3, rfl, ho3, hn3, B3⟩; have hB3 := below_next hB2 B3; have hF3 := hFk.out _ _ hF2 B3; obtain ⟨y30, y31, y32⟩ := hFa.out _ hF3; rw [← hPl.out] at ho3; have hr3 := RN.of_own pcE_len ho3 (own_len pcE_len (by decide) ho3) (by omega)))
  clear ho2 ho3 hF1 hF2 hF3 hB1 hB2 hB1' hr1 hr2
  go_wp2
  go_ret2
  exact ⟨A3, n3, c3, rfl, hr3, by omega, hB3⟩
end Go.Proofs.YtdbfcneeiiialaaGreatDoor
