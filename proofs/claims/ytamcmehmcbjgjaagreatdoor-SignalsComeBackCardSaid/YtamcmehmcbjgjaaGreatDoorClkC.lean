/- Clocks as data; pad.CheckClocks, tumbref1.ClocksFault. Printed by wip/genclk.py. -/
import Derived.Test.YtamcmehmcbjgjaaGreatDoorSigD
namespace Go.Proofs.YtamcmehmcbjgjaaGreatDoor
open Go.RowKit Go.Shelf Go.Lib Go.Sort
set_option linter.unusedVariables false

structure Ck where
  dev : ByteArray
  from_ : Int
  ahead : Int
instance : Inhabited Ck := ⟨⟨⟨#[]⟩, 0, 0⟩⟩
def ckE (x : Ck) : List Value := [.string x.dev, .int .i64 x.from_, .int .i64 x.ahead]
theorem ckE_len : ∀ x, (ckE x).length = 3 := fun _ => rfl
abbrev RCk (w : World) (A : Option Addr) (n : Nat) (l : List Ck) : Prop := RN 3 ckE 119 w A n l
theorem RCk_at3 {w : World} {A : Option Addr} {n : Nat} {l : List Ck} (h : RCk w A n l) {k : Nat} (hk : k < n) : ∃ b off x, A = some ⟨b, off, none⟩ ∧ b < w.heap.size ∧ l[k]? = some x ∧ w.cell? ⟨b, off + k * 3, none⟩ = some (.string x.dev) ∧ w.cell? ⟨b, off + k * 3 + 1, none⟩ = some (.int .i64 x.from_) ∧ w.cell? ⟨b, off + k * 3 + 2, none⟩ = some (.int .i64 x.ahead) := by
  obtain ⟨b, off, x, hA, hb, hx, hc⟩ := h.at_ hk
  exact ⟨b, off, x, hA, hb, hx, hc 0 _ rfl, hc 1 _ rfl, hc 2 _ rfl⟩
theorem info_clock : (Tryz.prog.info? 119).map (fun i => (i.zero, i.size, i.bytes)) = some (some (.agg #[.string ⟨#[]⟩, .int .i64 0, .int .i64 0]), 3, 32) := by kernel_rfl
def ckCf (x y : Ck) : Int := orV [cmpB x.dev y.dev, Lib.compareInt x.from_ y.from_]
def ck1 (x : Ck) : Int := if keyB x.dev = false then 5 else if ¬ (0 ≤ x.from_ ∧ x.from_ ≤ 345686399999) then 1 else if ¬ (-3600000 ≤ x.ahead ∧ x.ahead ≤ 3600000) then 1 else 0
def badCk (o : Option Ck) (x : Ck) : Bool := match o with | some y => decide (0 ≤ ckCf y x) | none => false
def prevCk (l : List Ck) (k : Nat) : Option Ck := if k = 0 then none else l[k - 1]?
def clkGo : Option Ck → List Ck → Int
  | _, [] => 0
  | o, x :: r => if ck1 x ≠ 0 then ck1 x else if badCk o x = true then 7 else clkGo (some x) r
def clkErr (l : List Ck) : Int := if 400 < l.length then 2 else clkGo none l
theorem clkGo_at {l : List Ck} {k : Nat} {x : Ck} (h : l[k]? = some x) : clkGo (prevCk l k) (l.drop k) = if ck1 x ≠ 0 then ck1 x else if badCk (prevCk l k) x = true then 7 else clkGo (prevCk l (k + 1)) (l.drop (k + 1)) := by
  have e : prevCk l (k + 1) = some x := by unfold prevCk; rw [if_neg (by omega)]; exact h
  rw [drop_at h, e]
  rfl
theorem clkGo_ok : ∀ (l : List Ck) (o : Option Ck), clkGo o l = 0 → ∀ x ∈ l, (0 ≤ x.from_ ∧ x.from_ ≤ 345686399999) ∧ (-3600000 ≤ x.ahead ∧ x.ahead ≤ 3600000)
  | [], _, _, _, h => by cases h
  | x :: l, o, h, y, hy => by
    have h1 : ck1 x = 0 := by
      unfold clkGo at h
      split at h
      · rename_i h9; exact absurd h h9
      · rename_i h9; exact Decidable.not_not.1 h9
    have h2 : clkGo (some x) l = 0 := by
      unfold clkGo at h
      rw [if_neg (fun h9 => h9 h1)] at h
      split at h
      · cases h
      · exact h
    rcases List.mem_cons.1 hy with rfl | hy
    · unfold ck1 at h1
      split at h1
      · cases h1
      split at h1
      · cases h1
      split at h1
      · cases h1
      rename_i h4 h5
      exact ⟨Decidable.not_not.1 h4, Decidable.not_not.1 h5⟩
    · exact clkGo_ok l (some x) h2 y hy
theorem clk_ok {l : List Ck} (h : clkErr l = 0) : l.length ≤ 400 ∧ ∀ x ∈ l, (0 ≤ x.from_ ∧ x.from_ ≤ 345686399999) ∧ (-3600000 ≤ x.ahead ∧ x.ahead ≤ 3600000) := by
  unfold clkErr at h
  split at h
  · cases h
  · exact ⟨by omega, clkGo_ok l none h⟩
def PrevC (w : World) (b off : Nat) (l : List Ck) (k : Nat) : Prop := (k = 0 ∧ prevCk l k = none) ∨ (1 ≤ k ∧ ∃ y, prevCk l k = some y ∧ w.cell? ⟨b, off + (k - 1) * 3, none⟩ = some (.string y.dev) ∧ w.cell? ⟨b, off + (k - 1) * 3 + 1, none⟩ = some (.int .i64 y.from_))
theorem prevC_of {w : World} {b off n : Nat} {l : List Ck} (h : RCk w (some ⟨b, off, none⟩) n l) {k : Nat} (hk : k < n) : PrevC w b off l k := by
  by_cases h0 : k = 0
  · exact .inl ⟨h0, if_pos h0⟩
  · obtain ⟨b', off', y, hA, _, hy, d0, d1, _⟩ := RCk_at3 h (k := k - 1) (by omega)
    injection hA with hA
    injection hA with e1 e2
    subst e1 e2
    exact .inr ⟨by omega, y, by unfold prevCk; rw [if_neg h0]; exact hy, d0, d1⟩
set_option maxHeartbeats 6400000 in
set_option maxRecDepth 100000 in
theorem checkClocks_c (A : Option Addr) (n c : Nat) (l : List Ck) (w : World) (h : RCk w A n l) :
    Calls Tryz.prog 118 #[.slice A n c] w fun e w' => e = .returned (.int .i64 (clkErr l)) ∧ Below w.heap.size w w' := by
  have hR := Lib.hid (fun W B => h.below (w' := W) B)
  have hbd := h.bd
  have hl := Lib.hid h.len
  have hE := Lib.hid (show clkErr l = if 400 < n then 2 else clkGo none l by unfold clkErr; rw [h.len])
  have hGa := Lib.hid (fun k x (h : l[k]? = some x) => clkGo_at h)
  have hG0 := Lib.hid (fun o => show clkGo o [] = 0 from rfl)
  have hPk := Lib.hid (fun (W : World) b off k (h : RCk W (some ⟨b, off, none⟩) n l) (hk : k < n) => prevC_of h hk)
  generalize clkErr l = E at *
  generalize clkGo = SG at *
  clear h
  by_cases hbig : 400 < n
  · obtain rfl : E = 2 := by rw [hE.out, if_pos hbig]
    clear hE
    go_enter Tryz.func118, Tryz.ntmps118
    go_wp2
    go_ret
    exact ⟨rfl, Below.refl _ _⟩
  have hE2 := Lib.hid (show E = SG none l by rw [hE.out, if_neg hbig])
  clear hE
  have hB0 := Below.refl w.heap.size w
  go_enter Tryz.func118, Tryz.ntmps118
  go_wp2_with fail
  go_loopw [10] (fun i wr => ∃ (k : Nat), k ≤ n ∧ i = .int .i64 k ∧ Below w.heap.size w wr ∧ Hid (SG (prevCk l k) (l.drop k) = SG none l)) (fun i _ => n - (intOf i).toNat)
  case atStart => exact ⟨0, Nat.zero_le _, rfl, hB0, Lib.hid rfl⟩
  case round =>
    clear hB0
    obtain ⟨k, hk, rfl, hB, hF⟩ := hrel
    by_cases hlt : k < n
    · obtain ⟨b, off, x, rfl, hbl, hx, c0, c1, c2⟩ := RCk_at3 (hR.out _ hB) hlt
      have hP := hPk.out _ _ _ _ (hR.out _ hB) hlt
      have hS := Lib.hid ((hGa.out k x hx).symm.trans hF.out)
      have hmw := hB.size
      clear hx hF
      obtain ⟨dev, fr, ah⟩ := x
      dsimp only at *
      have hsg := Lib.hid (show ck1 ⟨dev, fr, ah⟩ = if keyB dev = false then 5 else if ¬ (0 ≤ fr ∧ fr ≤ 345686399999) then 1 else if ¬ (-3600000 ≤ ah ∧ ah ≤ 3600000) then 1 else 0 from rfl)
      generalize ck1 ⟨dev, fr, ah⟩ = e1 at *
      have hkey := Lib.hid (fun W => isKey_c dev W)
      have hret := Lib.hid (fun (v r : Int) (h1 : v ≠ 0) (h2 : v = e1) => show v = if e1 ≠ 0 then e1 else r by subst h2; rw [if_pos h1])
      generalize keyB dev = kb at *
      have hn0 := heap_alloc_new wr (.cells #[.string dev, .int .i64 fr, .int .i64 ah] 119)
      have hBn := below_new wr (.cells #[.string dev, .int .i64 fr, .int .i64 ah] 119)
      go_wp2_with fail
      refine (hkey.out _).mono ?_; rintro e w6 ⟨rfl, B6⟩
      have hb6 := (B6.block wr.heap.size (lt_of_heap hn0)).trans hn0
      have hB6x : Below wr.heap.size wr w6 := below_next hBn B6
      have hB6 := below_next hB hB6x
      have x0 := (blk_facts hb6).1 0
      have x1 := (blk_facts hb6).1 1
      have x2 := (blk_facts hb6).1 2
      clear hkey hn0 hBn B6
      go_wp2_with (first
        | (go_at_call 107; refine (within_c _ _ _ _).mono ?_; rintro e w' ⟨rfl, rfl⟩)
        | (go_at_call 119; refine (isMoment_c _ _).mono ?_; rintro e w' ⟨rfl, rfl⟩))
      all_goals try (go_ret; refine ⟨ret_i ?_, hB6⟩; rw [hE2.out, ← hS.out]; refine hret.out _ _ (by decide) ?_; rw [hsg.out]; clear hret hsg hS hE2 hB6 hB6x hb6 x0 x1 x2 c0 c1 c2 hP hR hPk hGa hG0 hl hB hbig hmw hbl hbd; cases kb <;> simp at * <;> (repeat' split) <;> first | rfl | omega)
      have hz : e1 = 0 := by
        rw [hsg.out]; clear hret hsg hS hE2 hB6 hB6x hb6 x0 x1 x2 c0 c1 c2 hP hR hPk hGa hG0 hl hB hbig hmw hbl hbd; cases kb <;> simp at * <;> (repeat' split) <;> first | rfl | omega
      rename_i g1
      have hS1 := Lib.hid (hS.out.symm.trans (if_neg (fun h => h hz))).symm
      clear hsg hS hret hz
      rcases hP with ⟨h0, hn0⟩ | ⟨h0, y, hy, d0, d1⟩
      · have hS2 := Lib.hid (show SG (prevCk l (k + 1)) (l.drop (k + 1)) = SG none l by rw [← hS1.out, hn0]; rfl)
        have e8 : decide (0 < k) = false := decide_eq_false (by omega)
        have e9 : decide ((0 : Int) < (k : Int)) = false := decide_eq_false (by omega)
        clear hn0 h0 hS1
        go_quiet (fail)
        clear e8 e9
        have hB2 := below_drewN hB6 nq
        go_wp2
        go_roundw
        case rel => exact ⟨k + 1, by omega, by go_num, hB2, hS2⟩
        case measure => simp [intOf]; omega
      · rw [hy] at hS1
        have hbv := Lib.hid (show badCk (some y) ⟨dev, fr, ah⟩ = decide (0 ≤ orV [cmpB y.dev dev, Lib.compareInt y.from_ fr]) from rfl)
        generalize badCk (some y) ⟨dev, fr, ah⟩ = bv at *
        obtain ⟨dev2, fr2, ah2⟩ := y
        dsimp only at *
        have hC1 := Lib.hid (fun W => show Calls Tryz.prog 136 #[.int .i64 fr2, .int .i64 fr] W fun e w' => e = .returned (.int .i64 (Lib.compareInt fr2 fr)) ∧ W = w' from (Tryz.cmp_Compare_int fr2 fr W).mono fun _ _ ⟨h1, h2⟩ => ⟨h1, h2.symm⟩)
        have hS9 := Lib.hid (fun W => show Calls Tryz.prog 125 #[.string dev2, .string dev] W fun e w' => e = .returned (.int .i64 (cmpB dev2 dev)) ∧ W = w' from (Tryz.strings_Compare dev2 dev W).mono fun _ _ ⟨h1, h2⟩ => ⟨h1, h2.symm⟩)
        generalize cmpB dev2 dev = u at *
        generalize Lib.compareInt fr2 fr = v at *
        have hO := Lib.hid (fun W A n c (h : RI 3 W A n [u, v]) => orP_c A n c [u, v] W h)
        generalize orV [u, v] = V at *
        have e8 : decide (0 < k) = true := decide_eq_true (by omega)
        have e9 : decide ((0 : Int) < (k : Int)) = true := decide_eq_true (by omega)
        have u1 : IntKind.i64.wrap ((k : Int) - 1) = (k : Int) - 1 := IntWalk.i64_in _ (by omega)
        have u2 : 0 ≤ (k : Int) - 1 := by omega
        have u3 : ((k : Int) - 1).toNat = k - 1 := by omega
        have u4 : (k : Int) - 1 < n := by omega
        have u5 : (1 : Int) ≤ (k : Int) := by omega
        have p0 := (hB6x.cell (p := ⟨b, off + (k - 1) * 3, none⟩) hbl).trans d0
        have p1 := (hB6x.cell (p := ⟨b, off + (k - 1) * 3 + 1, none⟩) hbl).trans d1
        have lb6 := lt_of_heap hb6
        clear hy h0 c0 c1 c2 d0 d1
        generalize wr.heap.size = b7 at *
        go_region_held3 (fun w' => w'.cell? ⟨b, off + (k - 1) * 3, none⟩ = some (.string dev2) ∧ w'.cell? ⟨b, off + (k - 1) * 3 + 1, none⟩ = some (.int .i64 fr2) ∧ w'.cell? ⟨b7, 0, none⟩ = some (.string dev) ∧ w'.cell? ⟨b7, 1, none⟩ = some (.int .i64 fr)) (go_keep)
          (first
            | (go_at_call 125; refine (hS9.out _).mono ?_; rintro e w' ⟨rfl, rfl⟩)
            | (go_at_call 136; refine (hC1.out _).mono ?_; rintro e w' ⟨rfl, rfl⟩)
            | (go_at_call 147; refine (hO.out _ _ _ _ (R1.litAt _ _ _ _ (by simp) rfl (by simp)).drew).mono ?_; rintro e w' ⟨rfl, rfl⟩))
        have hB8 := below_drewN (hB6.alloc hB6.size (.cells #[.int .i64 u, .int .i64 v] 3)) 1
        clear p0 p1 x0 x1 x2 e8 e9 hB6
        by_cases hv : 0 ≤ V
        · obtain rfl : E = 7 := by rw [hE2.out, ← hS1.out, if_pos (by rw [hbv.out]; exact decide_eq_true hv)]
          clear hE2 hS1 hbv
          go_wp2
          go_ret
          exact ⟨rfl, hB8⟩
        · have hS2 := Lib.hid (show SG (prevCk l (k + 1)) (l.drop (k + 1)) = SG none l by rw [← hS1.out, if_neg (by rw [hbv.out]; simpa using hv)])
          clear hS1 hbv
          go_wp2
          go_roundw
          case rel => exact ⟨k + 1, by omega, by go_num, hB8, hS2⟩
          case measure => simp [intOf]; omega
    · obtain rfl : k = n := by omega
      obtain rfl : E = 0 := by rw [hE2.out, ← hF.out, drop_end (by rw [hl.out]; exact Nat.le_refl _), hG0.out]
      clear hE2 hF
      go_wp2
      go_ret
      exact ⟨rfl, hB⟩
end Go.Proofs.YtamcmehmcbjgjaaGreatDoor
