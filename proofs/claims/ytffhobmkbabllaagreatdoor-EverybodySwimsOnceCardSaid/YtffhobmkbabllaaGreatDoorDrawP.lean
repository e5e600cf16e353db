import Derived.Test.YtffhobmkbabllaaGreatDoorSizeM
import Derived.BigGuardPart
import Derived.Test.YtffhobmkbabllaaGreatDoorDrwO
import Derived.Test.YtffhobmkbabllaaGreatDoorStT
import Derived.Test.YtffhobmkbabllaaGreatDoorOrdC
import Derived.Deep.QuietTactic
import Derived.Deep.DeepCutAuto
import Derived.Deep.CutBlock
import Derived.BigQuiet
import Derived.BigRegion
/- heat.sizes, with the room of the slice: made of SizeM by wip/mksizep.py. -/
namespace Go.Proofs.YtffhobmkbabllaaGreatDoor
open Go.RowKit Go.Shelf Go.Lib Go.Sort
set_option linter.unusedVariables false

def RetSz (w : World) (E : Int) (L : List Int) (e : Ending) (w' : World) : Prop := ∃ A n c, e = .returned (.tuple #[.slice A n c, .int .i64 E]) ∧ RI 3 w' A n L ∧ n ≤ c ∧ Below w.heap.size w w'
set_option maxHeartbeats 3200000 in
set_option maxRecDepth 100000 in
theorem sizesPC_c (p : Pl) (hp : PlOk p) (many : Int) (hm : 0 ≤ many ∧ many ≤ 300) (w : World) :
    Calls Tryz.prog 138 #[p.val, .int .i64 many] w (RetSz w (szErr (p.hi - p.lo + 1) many) (szV (p.hi - p.lo + 1) p.le many)) := by
  have hAp := Lib.hid (fun (u v' : Value) (L : List Int) (x : Int) (wx w' : World) (h : LO w p u L wx) ho hg => h.app (x := x) (v' := v') (w' := w') ho hg)
  have hSet := Lib.hid (fun (g n c j : Nat) (L : List Int) (x : Int) (wx : World) (h : LO w p (.slice (some ⟨g, 0, none⟩) n c) L wx) hn => h.set (j := j) (x := x) hn)
  have hblk := Lib.hid (fun (u : Value) (L : List Int) (wx : World) (h : LO w p u L wx) => (blk_facts h.blk).1)
  have hK0 : LO w p (.slice none 0 0) [] (w.alloc (.cells p.cells 72)) := ⟨World.ownsRow_nil _ _ _ _, heap_alloc_new w _, below_new w _, by simp⟩
  obtain ⟨lo, hi, le, ci⟩ := p
  obtain ⟨⟨p1, p2⟩, p3, ⟨p4, p5⟩, _⟩ := hp
  obtain ⟨m0, m1⟩ := hm
  dsimp only [Pl.val, Pl.cells] at *
  have w2 : IntKind.i64.wrap (hi - lo) = hi - lo := IntWalk.i64_in _ (by omega)
  obtain ⟨lanes, hL⟩ : ∃ lanes, hi - lo + 1 = lanes := ⟨_, rfl⟩
  rw [hL]
  have w3 : IntKind.i64.wrap (hi - lo + 1) = lanes := by rw [IntWalk.i64_in _ (by omega)]; exact hL
  have l1 : 1 ≤ lanes := by omega
  have l2 : lanes ≤ 10 := by omega
  have l3 : le ≤ lanes := by omega
  clear hL p5
  have hbd := sz_bd l1 m0
  have hE := Lib.hid (show szErr lanes many = if 60 < szN lanes many then 2 else 0 from rfl)
  have hV := Lib.hid (show szV lanes le many = if 60 < szN lanes many then [] else if 1 < szN lanes many ∧ szA lanes many < le then ((szS (szA lanes many) lanes (szN lanes many)).set 0 (szA lanes many + szK lanes le many)).set 1 (lanes - szK lanes le many) else szS (szA lanes many) lanes (szN lanes many) from rfl)
  have hA := Lib.hid (show szA lanes many = many - lanes * ((szN lanes many : Int) - 1) from rfl)
  have hKK := Lib.hid (show szK lanes le many = if 1 < szN lanes many ∧ szA lanes many < le then min (le - szA lanes many) (lanes - le) else 0 from rfl)
  have w4 : IntKind.i64.wrap (many + lanes) = many + lanes := IntWalk.i64_in _ (by omega)
  have w5 : IntKind.i64.wrap (many + lanes - 1) = many + lanes - 1 := IntWalk.i64_in _ (by omega)
  have w6 : (many + lanes - 1).tdiv lanes = (szN lanes many : Int) := by
    rw [Int.tdiv_eq_ediv_of_nonneg (by omega)]
    unfold szN
    have := Int.ediv_nonneg (show 0 ≤ many + lanes - 1 by omega) (show 0 ≤ lanes by omega)
    omega
  have w9 : (many + lanes - 1) / lanes = (szN lanes many : Int) := by
    rw [← w6, Int.tdiv_eq_ediv_of_nonneg (by omega)]
  have hN300 : (szN lanes many : Int) ≤ 300 := by
    rcases hbd with ⟨_, h1, h2⟩ | ⟨_, h1, _⟩
    · rcases Int.lt_or_le ((szN lanes many : Int) - 1) 0 with h | h
      · omega
      · have h3 := Int.mul_le_mul_of_nonneg_right l1 h
        rw [Int.one_mul] at h3
        generalize lanes * ((szN lanes many : Int) - 1) = q at *
        omega
    · omega
  have hNA : 1 ≤ szN lanes many → 1 ≤ szA lanes many ∧ szA lanes many ≤ lanes := fun h => by
    rcases hbd with ⟨_, h1, h2⟩ | ⟨_, h1, _⟩
    · rw [hA.out]
      have e : lanes * (szN lanes many : Int) = lanes * ((szN lanes many : Int) - 1) + lanes := by rw [Int.mul_sub, Int.mul_one]; omega
      omega
    · omega
  have hNl : Hid ((szN lanes many : Int) ≤ 300) := Lib.hid hN300
  have w7 : IntKind.i64.wrap (szN lanes many : Int) = (szN lanes many : Int) := IntWalk.i64_in _ (by omega)
  have w8 : (lanes == 0) = false := beq_eq_false_iff_ne.2 (by omega)
  have hz := (blk_facts (heap_alloc_new w (.cells #[.int .i64 lo, .int .i64 hi, .int .i64 le, .int .i64 ci] 72))).1
  have z0 := hz 0
  have z1 := hz 1
  clear hz hbd
  generalize szErr lanes many = E at *
  generalize szV lanes le many = V at *
  generalize szK lanes le many = kk at *
  generalize szA lanes many = a at *
  generalize szN lanes many = N at *
  have hNA' := Lib.hid hNA
  clear hNA
  by_cases h60 : 60 < N
  · obtain rfl : E = 2 := by rw [hE.out, if_pos h60]
    obtain rfl : V = [] := by rw [hV.out, if_pos h60]
    have q0 : (60 : Int) < (N : Int) := by omega
    clear hE hV hA hKK hAp hSet hblk
    have hB := hK0.bel
    go_enter Tryz.func138, Tryz.ntmps138
    go_wp2
    go_ret2
    exact ⟨none, 0, 0, rfl, R1.nil_ _ _ _ _, Nat.le_refl _, hB⟩
  · obtain rfl : E = 0 := by rw [hE.out, if_neg h60]
    have q0 : ¬ (60 : Int) < (N : Int) := by omega
    have hV2 := Lib.hid (show V = if 1 < N ∧ a < le then ((szS a lanes N).set 0 (a + kk)).set 1 (lanes - kk) else szS a lanes N by rw [hV.out, if_neg h60])
    have hS0 := Lib.hid (show szS a lanes 0 = [] from rfl)
    have hS1 := Lib.hid (fun k => show szS a lanes (k + 1) = szS a lanes k ++ [if k = 0 then a else lanes] from rfl)
    have hSl := Lib.hid (fun k => szS_len a lanes k)
    have hSa := Lib.hid (fun k j h => szS_at a lanes k j h)
    generalize szS a lanes = SS at *
    clear hE hV
    go_enter Tryz.func138, Tryz.ntmps138
    go_wp2_with fail
    go_loopw [8, 26] (fun u i wr => ∃ k : Nat, k ≤ N ∧ i = .int .i64 k ∧ LO w ⟨lo, hi, le, ci⟩ u (SS k) wr) (fun _ i _ => N - (intOf i).toNat)
    case atStart => exact ⟨0, Nat.zero_le _, rfl, by rw [hS0.out]; exact hK0⟩
    case round =>
      clear hK0
      obtain ⟨k, hk, rfl, K⟩ := hrel
      have hsl := hSl.out k
      obtain ⟨A, c, rfl⟩ := own_shape K.own
      rw [hsl] at K ⊢
      by_cases hlt : k < N
      · have hA1 := Lib.hid (fun v' x w' ho hg => hAp.out _ v' (SS k) x _ w' K ho hg)
        have hown := K.own
        have hsz := K.siz
        obtain ⟨a1, a2⟩ := hNA'.out (by omega)
        by_cases hk0 : k = 0
        · subst hk0
          have hst := Lib.hid (show SS (0 + 1) = SS 0 ++ [a] by rw [hS1.out, if_pos rfl])
          have e1 : IntKind.i64.wrap ((N : Int) - 1) = (N : Int) - 1 := IntWalk.i64_in _ (by omega)
          have e2 : IntKind.i64.wrap (lanes * ((N : Int) - 1)) = lanes * ((N : Int) - 1) := IntWalk.i64_in _ (by have := hA.out; generalize lanes * ((N : Int) - 1) = q at *; omega)
          have e3 : IntKind.i64.wrap (many - lanes * ((N : Int) - 1)) = a := by rw [← hA.out]; exact IntWalk.i64_in _ (by omega)
          go_wp2_with (at_builtin; refine wpList_app rfl (.tmp 31) (.tmp 38) 22 rfl Tryz.underlying22 info_int rfl (by omega) (by omega) hown rfl rfl rfl rfl (by simp [Value.oneCell']) (by omega) hsz ?_; intro v4 w4 hown4 hg4; have K4 := hA1.out v4 _ w4 hown4 hg4)
          clear e1 e2 e3
          go_roundw
          case rel => exact ⟨0 + 1, by omega, by go_num, by rw [hst.out]; exact K4⟩
          case measure => simp [intOf]; omega
        · have hst := Lib.hid (show SS (k + 1) = SS k ++ [lanes] by rw [hS1.out, if_neg hk0])
          have e1 : ((k : Int) == 0) = false := beq_eq_false_iff_ne.2 (by omega)
          go_wp2_with (at_builtin; refine wpList_app rfl (.tmp 40) (.tmp 42) 22 rfl Tryz.underlying22 info_int rfl (by omega) (by omega) hown rfl rfl rfl rfl (by simp [Value.oneCell']) (by omega) hsz ?_; intro v4 w4 hown4 hg4; have K4 := hA1.out v4 _ w4 hown4 hg4)
          go_roundw
          case rel => exact ⟨k + 1, by omega, by go_num, by rw [hst.out]; exact K4⟩
          case measure => simp [intOf]; omega
      · obtain rfl : k = N := by omega
        by_cases h1 : 1 < k
        rotate_left
        · have hVe : V = SS k := by rw [hV2.out, if_neg (fun h => h1 h.1)]
          subst hVe
          have e7 : decide (1 < k) = false := decide_eq_false (by omega)
          have e8 : decide ((1 : Int) < (k : Int)) = false := decide_eq_false (by omega)
          have hown := K.own
          have hbel := K.bel
          rw [hsl] at hown
          clear hS1 hSl hSet hAp hKK hNA' hS0 hV2 K hA hSa
          go_wp2_with fail
          go_quiet (fail)
          clear e7 e8
          go_wp2
          go_ret2
          exact ⟨A, k, c, rfl, R1.of_own hown (by omega), own_capN hown, below_drewN hbel _⟩
        · have q1 : (1 : Int) < (k : Int) := by omega
          obtain ⟨a1, a2⟩ := hNA'.out (by omega)
          have hown := K.own
          rw [hsl] at hown
          have hcap := Lib.hid (own_capN hown)
          obtain ⟨g, rfl, hgb⟩ := own_someN hown (by omega)
          have x0 : (SS k)[0]? = some a := by rw [hSa.out k 0 (by omega), if_pos rfl]
          have x1 : (SS k)[1]? = some lanes := by rw [hSa.out k 1 (by omega), if_neg (by omega)]
          have c0 : wr.cell? ⟨g, 0, none⟩ = some (.int .i64 a) := by rw [hown.cellAt 0 (by omega), ints_at, x0]; rfl
          have c1 : wr.cell? ⟨g, 1, none⟩ = some (.int .i64 lanes) := by rw [hown.cellAt 1 (by omega), ints_at, x1]; rfl
          have z2 := hblk.out _ _ _ K 2
          have f0 := hown.frozenAt 0
          have f1 := hown.frozenAt 1
          by_cases h2 : a < le
          rotate_left
          · have hVe : V = SS k := by rw [hV2.out, if_neg (fun h => h2 h.2)]
            subst hVe
            have hbel := K.bel
            clear hS1 hSl hSet hAp hKK hNA' hS0 hV2 K hA hSa
            go_wp2_with fail
            go_quiet (fail)
            go_wp2
            go_ret2
            exact ⟨_, k, c, rfl, R1.of_own hown (by omega), own_capN hown, below_drewN hbel _⟩
          · have hVe := Lib.hid (show V = ((SS k).set 0 (a + kk)).set 1 (lanes - kk) by rw [hV2.out, if_pos ⟨h1, h2⟩])
            have hke : kk = min (le - a) (lanes - le) := by rw [hKK.out, if_pos ⟨h1, h2⟩]
            have e1 : IntKind.i64.wrap (le - a) = le - a := IntWalk.i64_in _ (by omega)
            have e2 : IntKind.i64.wrap (lanes - le) = lanes - le := IntWalk.i64_in _ (by omega)
            have e3 : IntKind.i64.wrap (a + min (le - a) (lanes - le)) = a + kk := by rw [← hke]; exact IntWalk.i64_in _ (by omega)
            have e4 : IntKind.i64.wrap (lanes - min (le - a) (lanes - le)) = lanes - kk := by rw [← hke]; exact IntWalk.i64_in _ (by omega)
            have hke' := Lib.hid hke
            have hK2 := Lib.hid (fun q => hSet.out g k c 0 _ (a + kk) _ (K.drewN q) hsl)
            clear hS1 hSl hKK hNA' hS0 hV2 hA hSa hke
            go_wp2_with fail
            go_quiet (fail)
            go_wp2_with fail
            go_quiet (fail)
            go_wp2_with fail
            have K5 := Lib.hid (fun q => (hSet.out g k c 1 _ (lanes - kk) _ (hK2.out q) (by rw [List.length_set]; exact hsl)).read (by rw [List.length_set, List.length_set]; exact hsl) (by omega))
            go_ret2
            exact ⟨_, k, c, rfl, by rw [hVe.out]; exact (K5.out _).1, hcap.out, (K5.out _).2⟩
end Go.Proofs.YtffhobmkbabllaaGreatDoor

/- heat.draw: who swims in which heat: the walk. Printed by wip/mkdrawp.py. -/
namespace Go.Proofs.YtffhobmkbabllaaGreatDoor
open Go.RowKit Go.Shelf Go.Lib Go.Sort
set_option linter.unusedVariables false

/-- the end of a slice that was read: l[k:] -/
theorem slice_fr {α : Type} {size : Nat} {enc : α → List Value} {e T : TypeId} {w : World} {A : Option Addr} {n c k : Nat} {l : List α} (h : RN size enc e w A n l) (hnc : n ≤ c) (hk : k ≤ n) (hT : Tryz.prog.underlying T = some (.slice e)) (hs : ∀ W, Sem.run Tryz.prog (sizeOf e) W = .ok size W) :
    ∃ A', (∀ W, Sem.run Tryz.prog (Instr.sliceAt T (.slice A n c) (some (.int .i64 (k : Int))) none none) W = .ok (.slice A' (n - k) (c - k)) W) ∧ (∀ W, Sem.run Tryz.prog (Instr.slice T (.slice A n c) (some (.int .i64 (k : Int))) none none) W = .ok (.slice A' (n - k) (c - k)) W) ∧ RN size enc e w A' (n - k) (l.drop k) := by
  have he : Tryz.prog.elem T = e := by unfold Program.elem; rw [hT]
  have hT2 : Tryz.prog.underlying T = some (.slice (Tryz.prog.elem T)) := by rw [he]; exact hT
  have hr : ∀ W, Sem.run Tryz.prog (Instr.slice T (.slice A n c) (some (.int .i64 (k : Int))) none none) W = .ok (.slice (if c = k then A else A.map (·.add (k * size))) (n - k) (c - k)) W := fun W => by
    rw [run_slice_l W T A n c hT2 .i64 (k : Int) (by omega) (by omega), he, hs]
    simp [Result.andThen, sliced]
  refine ⟨_, fun W => (run_sliceAt_slice W T _ _ _ _ hT2).trans (hr W), hr, ?_⟩
  have hl := h.len
  refine ⟨by rw [List.length_drop]; omega, by have := h.2.1; omega, fun hp => ?_⟩
  obtain ⟨b, off, cs, fz, rfl, hb, hc⟩ := h.2.2 (by omega)
  rw [if_neg (by omega)]
  refine ⟨b, off + k * size, cs, fz, ?_, hb, fun j x hx i u hu => ?_⟩
  · show some ((⟨b, off, none⟩ : Addr).add (k * size)) = _
    rw [add_offH]
  · rw [List.getElem?_drop] at hx
    have := hc (k + j) x hx i u hu
    rw [show off + (k + j) * size + i = off + k * size + j * size + i by rw [Nat.add_mul]; omega] at this
    exact this
/-- the same, told of all worlds -/
theorem slice_frU {α : Type} {size : Nat} {enc : α → List Value} {e T : TypeId} {A : Option Addr} {n c k : Nat} (hnc : n ≤ c) (hk : k ≤ n) (hT : Tryz.prog.underlying T = some (.slice e)) (hs : ∀ W, Sem.run Tryz.prog (sizeOf e) W = .ok size W) :
    ∃ A', (∀ W, Sem.run Tryz.prog (Instr.sliceAt T (.slice A n c) (some (.int .i64 (k : Int))) none none) W = .ok (.slice A' (n - k) (c - k)) W) ∧ (∀ W, Sem.run Tryz.prog (Instr.slice T (.slice A n c) (some (.int .i64 (k : Int))) none none) W = .ok (.slice A' (n - k) (c - k)) W) ∧ ∀ (v : World) (l : List α), RN size enc e v A n l → RN size enc e v A' (n - k) (l.drop k) := by
  have he : Tryz.prog.elem T = e := by unfold Program.elem; rw [hT]
  have hT2 : Tryz.prog.underlying T = some (.slice (Tryz.prog.elem T)) := by rw [he]; exact hT
  have hr : ∀ W, Sem.run Tryz.prog (Instr.slice T (.slice A n c) (some (.int .i64 (k : Int))) none none) W = .ok (.slice (if c = k then A else A.map (·.add (k * size))) (n - k) (c - k)) W := fun W => by
    rw [run_slice_l W T A n c hT2 .i64 (k : Int) (by omega) (by omega), he, hs]
    simp [Result.andThen, sliced]
  refine ⟨_, fun W => (run_sliceAt_slice W T _ _ _ _ hT2).trans (hr W), hr, fun w l h => ?_⟩
  have hl := h.len
  refine ⟨by rw [List.length_drop]; omega, by have := h.2.1; omega, fun hp => ?_⟩
  obtain ⟨b, off, cs, fz, rfl, hb, hc⟩ := h.2.2 (by omega)
  rw [if_neg (by omega)]
  refine ⟨b, off + k * size, cs, fz, ?_, hb, fun j x hx i u hu => ?_⟩
  · show some ((⟨b, off, none⟩ : Addr).add (k * size)) = _
    rw [add_offH]
  · rw [List.getElem?_drop] at hx
    have := hc (k + j) x hx i u hu
    rw [show off + (k + j) * size + i = off + k * size + j * size + i by rw [Nat.add_mul]; omega] at this
    exact this
theorem slice_frI {w : World} {A : Option Addr} {n c k : Nat} {l : List Int} (h : RI 3 w A n l) (hnc : n ≤ c) (hk : k ≤ n) :
    ∃ A', (∀ W, Sem.run Tryz.prog (Instr.sliceAt 22 (.slice A n c) (some (.int .i64 (k : Int))) none none) W = .ok (.slice A' (n - k) (c - k)) W) ∧ (∀ W, Sem.run Tryz.prog (Instr.slice 22 (.slice A n c) (some (.int .i64 (k : Int))) none none) W = .ok (.slice A' (n - k) (c - k)) W) ∧ RI 3 w A' (n - k) (l.drop k) := by
  have hN : RN 1 (fun x : Int => [Value.int .i64 x]) 3 w A n l := ⟨h.1, h.2.1, fun hp => by
    obtain ⟨b, off, cs, fz, ha, hb, hc⟩ := h.2.2 hp
    refine ⟨b, off, cs, fz, ha, hb, fun j x hx i u hu => ?_⟩
    cases i with
    | zero =>
      obtain rfl : (.int .i64 x : Value) = u := by simpa using hu
      rw [Nat.mul_one, Nat.add_zero]; exact hc j x hx
    | succ i => simp at hu⟩
  obtain ⟨A', h1, h2, h3⟩ := slice_fr (T := 22) hN hnc hk Tryz.underlying22 Tryz.sizeOf3
  refine ⟨A', h1, h2, h3.1, h3.2.1, fun hp => ?_⟩
  obtain ⟨b, off, cs, fz, ha, hb, hc⟩ := h3.2.2 hp
  refine ⟨b, off, cs, fz, ha, hb, fun j x hx => ?_⟩
  have := hc j x hx 0 _ rfl
  rw [Nat.mul_one, Nat.add_zero] at this
  exact this
theorem before_c (a lo n : Nat) (w : World) (h1 : lo ≤ a) (h2 : a < n) (h3 : n ≤ 1000) :
    Calls Tryz.prog 189 #[.int .i64 (a : Int), .int .i64 (lo : Int), .int .i64 (n : Int)] w fun e w' => e = .returned (.int .i64 ((befH lo n a : Nat) : Int)) ∧ w = w' := by
  by_cases h : a = lo
  · subst h
    have e1 : ((befH a n a : Nat) : Int) = (n : Int) - 1 := by unfold befH; rw [if_pos rfl]; omega
    rw [e1]
    clear e1
    go_enter Tryz.func189, Tryz.ntmps189
    go_wp2
    go_ret
    exact ⟨rfl, rfl⟩
  · have e1 : ((befH lo n a : Nat) : Int) = (a : Int) - 1 := by unfold befH; rw [if_neg h]; omega
    have e2 : ((a : Int) == (lo : Int)) = false := beq_eq_false_iff_ne.2 (by omega)
    rw [e1]
    clear e1
    go_enter Tryz.func189, Tryz.ntmps189
    go_wp2
    go_ret
    exact ⟨rfl, rfl⟩
section
variable {α : Type} {S : List Int} {H : List (List α)} {who : List α}
theorem fill_low {lo : Nat} : ∀ (d : Nat), (∀ i, lo ≤ i → i < lo + d → remH S H i ≤ 0) → fillH S (lo + d) H who = fillH S lo H who
  | 0, _ => rfl
  | d + 1, h => by
    rw [show lo + (d + 1) = (lo + d) + 1 by omega, fill_full (h (lo + d) (by omega) (by omega))]
    exact fill_low d (fun i h1 h2 => h i h1 (by omega))
theorem room_zero (hf : ∀ i, 0 ≤ remH S H i) {lo m : Nat} (hz : roomH S H lo m = 0) {i : Nat} (h1 : lo ≤ i) (h2 : i < lo + m) : remH S H i ≤ 0 := by
  have := room_ge hf h1 h2
  omega
end
/-- what draw hands back -/
def RetDp (w : World) (p : Pl) (n : Nat) (R : List (List ByteArray)) (e : Ending) (w' : World) : Prop := (szErr (p.hi - p.lo + 1) n ≠ 0 ∧ e = .returned (.tuple #[.slice none 0 0, .int .i64 2]) ∧ Below w.heap.size w w') ∨ (szErr (p.hi - p.lo + 1) n = 0 ∧ ∃ A' n' c' D, e = .returned (.tuple #[.slice A' n' c', .int .i64 0]) ∧ RSp w' A' n' D ∧ SpSorted (stOut (laneV p.lo p.hi) 0 R) D ∧ Below w.heap.size w w')
set_option maxHeartbeats 12800000 in
set_option maxRecDepth 100000 in
theorem draw_c (p : Pl) (hp : PlOk p) (A : Option Addr) (n c : Nat) (O : List Sd) (w : World)
    (hOr : ∀ W, Below w.heap.size w W → Calls Tryz.prog 135 #[.slice A n c] W fun e w' => ∃ A' c', e = .returned (.slice A' n c') ∧ RSd w' A' n O ∧ n ≤ c' ∧ Below W.heap.size W w') (hol : O.length = n) (hn : n ≤ 300) (R : List (List ByteArray)) (hR : szErr (p.hi - p.lo + 1) n = 0 → DrawR (szV (p.hi - p.lo + 1) p.le n) p.ci (O.map Sd.who) R) :
    Calls Tryz.prog 126 #[p.val, .slice A n c] w (RetDp w p n R) := by
  have hSz := Lib.hid (fun W => sizesPC_c p hp n (by omega) W)
  have hSt := Lib.hid (fun A n c H W h hn hl => starts_c p hp A n c H W h hn hl)
  have hLl := laneV_len hp.1.2
  have hF := Lib.hid (fun h => szV_facts (lanes := p.hi - p.lo + 1) (le := p.le) (many := (n : Int)) (by have := hp.1.2; omega) hp.2.2.1 (by omega) h)
  have hP0 : (w.alloc (.cells p.cells 72)).heap[w.heap.size]? = some (.cells p.cells 72 (0, 0)) := heap_alloc_new w _
  have hB0 := below_new w (.cells p.cells 72)
  have hO' := Lib.hid hOr
  have hR' := Lib.hid hR
  have hci : 1 ≤ p.ci ∧ p.ci ≤ 10 := hp.2.2.2
  have hl10 : 1 ≤ p.hi - p.lo + 1 ∧ p.hi - p.lo + 1 ≤ 10 := by have := hp.1; have := hp.2.1; omega
  clear hOr hR hp hLl
  subst hol
  have hwl := Lib.hid (show (O.map Sd.who).length = O.length from List.length_map _)
  obtain ⟨lo', hi', le', ci⟩ := p
  dsimp only [Pl.val, Pl.cells] at *
  have z0 := (blk_facts hP0).1 0
  have z1 := (blk_facts hP0).1 1
  have z2 := (blk_facts hP0).1 2
  have z3 := (blk_facts hP0).1 3
  by_cases hE : szErr (hi' - lo' + 1) (O.length : Int) = 0
  rotate_left
  · have hE2 : szErr (hi' - lo' + 1) (O.length : Int) = 2 := by unfold szErr at hE ⊢; split at hE <;> simp_all
    have hE' := Lib.hid hE
    rw [hE2] at hSz
    clear hR' hF hE hE2 hO' hSt
    go_enter Tryz.func126, Tryz.ntmps126
    go_wp2_with fail
    refine (hSz.out _).mono ?_; rintro e w1 ⟨AS, nS, cS, rfl, rS, _, B1⟩
    have hB1 := below_next hB0 B1
    clear hSz hP0 hB0 B1 z0 z1 z2 z3
    go_wp2
    go_ret2
    exact .inl ⟨hE'.out, rfl, hB1⟩
  have hRR := hR'.out hE
  obtain ⟨hS1, hS2, hS3⟩ := hF.out hE
  rw [hE] at hSz
  have hE' := Lib.hid hE
  clear hR' hF hE
  generalize szV (hi' - lo' + 1) le' (O.length : Int) = S at *
  have hI := InvH.start (S := S) (who := O.map Sd.who) (fun x hx => (hS1 x hx).1) (by rw [hwl.out]; exact hS2.symm)
  have hI' := Lib.hid hI
  have hS1' := Lib.hid hS1
  have hS2' := Lib.hid hS2
  obtain ⟨N, hN⟩ : ∃ N, S.length = N := ⟨_, rfl⟩
  rw [hN] at hI' hS3
  have hN' := Lib.hid hN
  unfold DrawR at hRR
  rw [hN] at hRR
  have hRR' := Lib.hid hRR
  clear hI hS1 hS2 hRR hN
  go_enter Tryz.func126, Tryz.ntmps126
  go_wp2_with fail
  refine (hSz.out _).mono ?_; rintro e w1 ⟨AS, nS, cS, rfl, rS, hcS, B1⟩
  obtain rfl : nS = N := by rw [← rS.len]; exact hN'.out
  have hB1 := below_next hB0 B1
  have hP1 := blk_below hP0 B1
  have hz1 := hB1.size
  have hmk := mk_rowsH nS (by omega)
  have hD0 := Hts.start (base := w.heap.size) (b := w1.heap.size) (w := w1.alloc (.cells (Array.replicate nS (.slice none 0 0)) 76)) nS (heap_alloc_new w1 _)
  have hBn := below_new w1 (.cells (Array.replicate nS (.slice none 0 0)) 76)
  have hP2 := blk_below hP1 hBn
  have hB2 := below_next hB1 hBn
  have rS2 := rS.below hBn
  have y3 := (blk_facts hP2).1 3
  clear hSz hP0 hB0 B1 z0 z1 z2 z3 hP1 rS hBn hB1
  go_upto_if 41 with (fail)
  obtain ⟨C, hC⟩ : ∃ C, (if (nS : Int) < ci then (nS : Int) else ci) = C := ⟨_, rfl⟩
  have hC2 : min ci (nS : Int) = C := by rw [← hC]; split <;> omega
  rw [hC2] at hRR'
  first | rw [hC2] | rw [hC]
  have hC0 : 0 ≤ C ∧ C ≤ nS := by omega
  clear hC hC2
  generalize hw2 : w1.alloc (.cells (Array.replicate nS (.slice none 0 0)) 76) = w2 at *
  generalize w1.heap.size = b at *
  clear hw2 y3
  obtain ⟨c0, hc0⟩ : ∃ c0 : Nat, (if 2 ≤ C then C else 0) = (c0 : Int) ∧ c0 ≤ nS := ⟨(if 2 ≤ C then C else 0).toNat, by split <;> omega, by split <;> omega⟩
  obtain ⟨hc0, hc0n⟩ := hc0
  go_cut [9] (fun s wx => s = .int .i64 (c0 : Int) ∧ w2 = wx)
  case first =>
    by_cases h2 : 2 ≤ C
    · rw [if_pos h2] at hc0
      have h3 : ¬ C < 2 := by omega
      go_wp2
      go_meet
      case rel => first | exact ⟨rfl, rfl⟩ | exact ⟨by rw [hc0], rfl⟩ | exact ⟨_, ⟨by rw [hc0], rfl⟩, rfl⟩
    · rw [if_neg h2] at hc0
      have h3 : C < 2 := by omega
      obtain rfl : c0 = 0 := by omega
      clear hc0
      go_wp2
      go_meet
      case rel => first | exact ⟨rfl, rfl⟩ | exact ⟨_, ⟨rfl, rfl⟩, rfl⟩
  case rest =>
    obtain ⟨rfl, rfl⟩ := hcut
    obtain ⟨lo, hlo⟩ : ∃ lo, nS - c0 = lo := ⟨_, rfl⟩
    have hlo' := Lib.hid hlo
    have hlon : lo ≤ nS := by omega
    have f1 : (nS : Int) - (c0 : Int) = (lo : Int) := by omega
    obtain ⟨A48, hs1, hs2, r48⟩ := slice_frI (k := lo) rS2 hcS hlon
    have hNl : Hid (S.length = nS) := Lib.hid rS2.len
    have hrm : Hid (∀ (L : List Hb) (k : Nat) (x : Int) (y : Hb), S[k]? = some x → L[k]? = some y → remH S (L.map Hb.l) k = x - (y.l.length : Int)) := Lib.hid (fun L k x y h1 h2 => by
      unfold remH; rw [List.getD_eq_getElem?_getD, List.getD_eq_getElem?_getD, h1, List.getElem?_map, h2]; rfl)
    have hL0 : Hid ((List.replicate nS (⟨none, 0, []⟩ : Hb)).map Hb.l = List.replicate nS []) := Lib.hid (by simp)
    have hro : Hid (∀ m, roomH S (List.replicate nS ([] : List ByteArray)) lo (m + 1) = roomH S (List.replicate nS ([] : List ByteArray)) lo m + S.getD (lo + m) 0) := Lib.hid (fun m => by
      show _ + remH S _ (lo + m) = _
      congr 1
      unfold remH
      rw [List.getD_eq_getElem?_getD (l := List.replicate _ _), List.getElem?_replicate]
      split <;> simp)
    have hrb : Hid (∀ m, lo + m ≤ nS → 0 ≤ roomH S (List.replicate nS ([] : List ByteArray)) lo m ∧ roomH S (List.replicate nS ([] : List ByteArray)) lo m ≤ O.length) := Lib.hid (fun m hm => by
      have h := hI'.out.room lo m (by rw [hNl.out]; exact hm)
      rw [hwl.out] at h
      exact h)
    have hgd : Hid (∀ (j : Nat) (x : Int), (S.drop lo)[j]? = some x → S.getD (lo + j) 0 = x) := Lib.hid (fun j x h => by rw [List.getElem?_drop] at h; rw [List.getD_eq_getElem?_getD, h]; rfl)
    have r0 : Hid (roomH S (List.replicate nS ([] : List ByteArray)) lo 0 = 0) := Lib.hid rfl
    generalize hRM : roomH S (List.replicate nS ([] : List ByteArray)) lo = RM at *
    have hRM' := Lib.hid hRM
    clear hRM hlo
    go_wp2_with fail
    go_loopw [11, 50] (fun u iv wx => ∃ j : Nat, j ≤ nS - lo ∧ iv = .int .i64 j ∧ u = .int .i64 (RM j) ∧ w2 = wx) (fun _ iv _ => (nS - lo) - (intOf iv).toNat)
    case atStart => exact ⟨0, Nat.zero_le _, by simp [r0.out]⟩
    case round =>
      rename World => wx
      obtain ⟨j, hj, rfl, rfl, rfl⟩ := hrel
      by_cases hlt : j < nS - lo
      · obtain ⟨b48, o48, x, rfl, hb48, hx, cx⟩ := r48.at_ hlt
        have e1 : RM (j + 1) = RM j + x := by rw [hro.out, hgd.out j x hx]
        have hb1 := hrb.out j (by omega)
        have hb2 := hrb.out (j + 1) (by omega)
        rw [e1] at hb2
        have e1' := Lib.hid e1
        clear e1 hx
        obtain ⟨sm, hsm⟩ : ∃ sm, RM j = sm := ⟨_, rfl⟩
        rw [hsm] at hb1 hb2 e1' ⊢
        clear hsm
        go_wp2
        go_roundw
        case rel => exact ⟨j + 1, by omega, by go_num, by rw [e1'.out], by first | rfl | trivial⟩
        case measure => simp [intOf]; omega
      · obtain rfl : j = nS - lo := by omega
        obtain ⟨m0, m1⟩ := hrb.out (nS - lo) (by omega)
        obtain ⟨M, hM⟩ : ∃ M : Nat, RM (nS - lo) = (M : Int) := ⟨(RM (nS - lo)).toNat, by omega⟩
        rw [hM] at m0 m1 ⊢
        have hM' := Lib.hid hM
        have hMn : M ≤ O.length := by omega
        clear hM m0 hs1 hs2 r48 hj hlt r0 hgd hrb hro
        go_wp2_with fail
        refine (hO'.out _ hB2).mono ?_; rintro e w3 ⟨AO, cO, rfl, rO, hcO, B3⟩
        have hB3 := below_next hB2 B3
        have rS3 := rS2.below B3
        have hP3 := blk_below hP2 B3
        have hD3 := hD0.below B3
        obtain ⟨X, D0, hX⟩ : ∃ X : World → Prop, Dr w b X (List.replicate nS ⟨none, 0, []⟩) w3 ∧ Hid (∀ v, X v → RI 3 v AS nS S ∧ RSd v AO O.length O ∧ v.heap[w.heap.size]? = some (.cells #[.int .i64 lo', .int .i64 hi', .int .i64 le', .int .i64 ci] 72 (0, 0))) := ⟨fun v => RI 3 v AS nS S ∧ RSd v AO O.length O ∧ v.heap[w.heap.size]? = some (.cells #[.int .i64 lo', .int .i64 hi', .int .i64 le', .int .i64 ci] 72 (0, 0)), ⟨hD3, ⟨rS3, rO, hP3⟩, fun a v h hk => ⟨h.1.keepS (by decide) (by decide) hk, h.2.1.keepS (by decide) (by decide) hk, hk _ _ _ _ (by decide) (by decide) h.2.2⟩, hB3, hz1⟩, Lib.hid (fun v h => h)⟩
        have j0 : (0 : Int) ≤ (M : Int) := by omega
        have j1 : (M : Int) ≤ (cO : Int) := by omega
        clear hO' hB2 hP2 hD0 rS2 rO hB3 rS3 hP3 hD3 B3
        obtain ⟨L0, hL0e⟩ : ∃ L0, List.replicate nS (⟨none, 0, []⟩ : Hb) = L0 := ⟨_, rfl⟩
        rw [hL0e] at D0 hL0
        clear hL0e
        -- the trace of the circle
        obtain ⟨H1, w1', hfill, hCir⟩ : ∃ H1 w1', fillH S nS H1 w1' = R ∧ ((2 ≤ c0 ∧ ∃ k0, Cir S lo nS k0 (nS - 1) (L0.map Hb.l) (O.map Sd.who) H1 w1') ∨ (c0 = 0 ∧ H1 = L0.map Hb.l ∧ w1' = O.map Sd.who)) := by
          have h9 := hRR'.out
          rw [hL0.out]
          by_cases h2 : 2 ≤ C
          · rw [if_pos h2] at h9 hc0
            obtain ⟨k0, H1, w1', q1, q2⟩ := h9
            rw [show nS - C.toNat = lo by have := hlo'.out; omega] at q1
            exact ⟨H1, w1', q2, .inl ⟨by omega, k0, q1⟩⟩
          · rw [if_neg h2] at h9 hc0
            exact ⟨_, _, h9, .inr ⟨by omega, rfl, rfl⟩⟩
        have hWs := Lib.hid (fun k => show ((O.map Sd.who).drop k) = (O.drop k).map Sd.who from (List.map_drop).symm)
        go_upto_block 2 with (fail)
        go_cut [] (fun wx => ∃ L, Dr w b X L wx ∧ L.map Hb.l = H1 ∧ w1' = (O.map Sd.who).drop M ∧ InvH S H1 w1' ∧ (∀ i, lo ≤ i → i < nS → remH S H1 i ≤ 0) ∧ (∀ i, i < lo → H1.getD i [] = []))
        case first =>
          have hI0 := hI'.out
          rw [← hL0.out] at hI0
          have hM0 : roomH S (L0.map Hb.l) lo (nS - lo) = (M : Int) := by rw [hL0.out, hRM'.out]; exact hM'.out
          have hE0 : ∀ i, i < lo → (L0.map Hb.l).getD i [] = [] := fun i _ => by rw [hL0.out, List.getD_eq_getElem?_getD, List.getElem?_replicate]; split <;> rfl
          rcases hCir with ⟨h2, k0, hCir⟩ | ⟨h2, e1, e2⟩
          rotate_left
          · have hlN : lo = nS := by have := hlo'.out; omega
            have hM00 : M = 0 := by
              rw [hlN, Nat.sub_self] at hM0
              have : (0 : Int) = (M : Int) := hM0
              omega
            subst hM00
            have hfz : ∀ i, lo ≤ i → i < nS → remH S H1 i ≤ 0 := fun i h3 h4 => by omega
            have hE1 : ∀ i, i < lo → H1.getD i [] = [] := by rw [e1]; exact hE0
            have e1' : L0.map Hb.l = H1 := e1.symm
            have e2' : w1' = (O.map Sd.who).drop 0 := by rw [e2, List.drop_zero]
            have hI1 : InvH S H1 w1' := by rw [e1, e2]; exact hI0
            have hall := Lib.hid (And.intro e1' (And.intro e2' (And.intro hI1 (And.intro hfz hE1))))
            clear hI0 hM0 hE0 e1 e2 e1' e2' hI1 hfz hE1 hM' hRM' hlN
            go_wp2_with fail
            refine wp_loop_rounds 1 ?_
            rw [rounds_succ]
            go_wp2
            go_meet
            case rel => exact ⟨L0, D0, hall.out⟩
          · have hlN : lo < nS := by have := hlo'.out; omega
            have hI0' := Lib.hid (show InvH S (L0.map Hb.l) ((O.map Sd.who).drop 0) by rw [List.drop_zero]; exact hI0)
            have hM0' := Lib.hid (show roomH S (L0.map Hb.l) lo (nS - lo) = (M : Int) - ((0 : Nat) : Int) by rw [hM0]; omega)
            have hE0' := Lib.hid hE0
            have hCir' := Lib.hid (show Cir S lo nS k0 (nS - 1) (L0.map Hb.l) ((O.map Sd.who).drop 0) H1 w1' by rw [List.drop_zero]; exact hCir)
            have hfill' := Lib.hid hfill
            clear hI0 hM0 hE0 hCir hM' hRM' hfill h2 hL0
            go_wp2_with fail
            go_loopw [15, 67] (fun av kv wr => ∃ (k : Nat) (L : List Hb) (kc at_ : Nat), k ≤ M ∧ kv = .int .i64 k ∧ av = .int .i64 at_ ∧ lo ≤ at_ ∧ at_ < nS ∧ Dr w b X L wr ∧ Hid (InvH S (L.map Hb.l) ((O.map Sd.who).drop k)) ∧ Hid (roomH S (L.map Hb.l) lo (nS - lo) = (M : Int) - (k : Int)) ∧ Hid (∀ i, i < lo → (L.map Hb.l).getD i [] = []) ∧ Hid (Cir S lo nS kc at_ (L.map Hb.l) ((O.map Sd.who).drop k) H1 w1')) (fun _ kv _ => M - (intOf kv).toNat)
            case atStart => exact ⟨0, L0, k0, nS - 1, Nat.zero_le _, rfl, by congr 1; omega, by omega, by omega, D0, hI0', hM0', hE0', hCir'⟩
            case round =>
              clear D0 hI0' hM0' hE0' hCir' L0
              rename World => wr
              obtain ⟨k, L, kc, at_, hk, rfl, rfl, ha1, ha2, K, hI, hM, hE, hCir⟩ := hrel
              by_cases hlt : k < M
              · obtain ⟨bO, oO, x, rfl, hbO, hx, cO0, cO1⟩ := RSd_at2 (hX.out _ K.x).2.1 (k := k) (by omega)
                have hdr : (O.map Sd.who).drop k = x.who :: (O.map Sd.who).drop (k + 1) := drop_at (by rw [List.getElem?_map, hx]; rfl)
                rw [hdr] at hI hCir
                have hMk := Lib.hid (show roomH S (L.map Hb.l) lo (nS - lo) ≠ 0 by rw [hM.out]; omega)
                obtain ⟨who, tm⟩ := x
                dsimp only at *
                clear hx hdr
                have hLl := Lib.hid (show L.length = nS by have := hI.out.len; rw [List.length_map] at this; rw [this]; exact hNl.out)
                have hb17 := heap_alloc_new wr (.cells #[.string who, .int .i64 tm] 40)
                have hK17 := K.below (below_new wr (.cells #[.string who, .int .i64 tm] 40))
                have j2 : (0 : Int) ≤ (k : Int) := by omega
                have j3 : (k : Int) < (M : Int) := by omega
                go_upto_block 4 with (fail)
                generalize hw17 : wr.alloc (.cells #[.string who, .int .i64 tm] 40) = w17 at *
                generalize wr.heap.size = b17 at *
                clear hw17 K cO0 cO1 hbO
                go_cut [15] (fun av wx => ∃ (at_ kc : Nat), av = .int .i64 at_ ∧ lo ≤ at_ ∧ at_ < nS ∧ Hid (0 < remH S (L.map Hb.l) at_) ∧ Hid (Cir S lo nS kc (befH lo nS at_) (pushH at_ who (L.map Hb.l)) ((O.map Sd.who).drop (k + 1)) H1 w1') ∧ Dr w b X L wx ∧ wx.heap[b17]? = some (.cells #[.string who, .int .i64 tm] 40 (0, 0)))
                case first =>
                  go_wp2_with fail
                  go_loopg [15] kc (fun g av wx => ∃ at_ : Nat, av = .int .i64 at_ ∧ lo ≤ at_ ∧ at_ < nS ∧ Hid (Cir S lo nS g at_ (L.map Hb.l) (who :: (O.map Sd.who).drop (k + 1)) H1 w1') ∧ Dr w b X L wx ∧ wx.heap[b17]? = some (.cells #[.string who, .int .i64 tm] 40 (0, 0)))
                  case atStart => exact ⟨at_, rfl, ha1, ha2, hCir, hK17, hb17⟩
                  case round =>
                    clear hCir hK17 hb17 ha1 ha2
                    rename World => wx
                    obtain ⟨at_, rfl, ha1, ha2, hCir, K, hb17⟩ := hrel
                    obtain ⟨g, rfl⟩ : ∃ g, gk = g + 1 := by
                      cases gk with
                      | zero =>
                        rcases hCir.out.1 with h | h
                        · cases h
                        · exact absurd h hMk.out
                      | succ g => exact ⟨g, rfl⟩
                    have hC2 := Lib.hid (show (if remH S (L.map Hb.l) at_ ≤ 0 then Cir S lo nS g (befH lo nS at_) (L.map Hb.l) (who :: (O.map Sd.who).drop (k + 1)) H1 w1' else Cir S lo nS g (befH lo nS at_) (pushH at_ who (L.map Hb.l)) ((O.map Sd.who).drop (k + 1)) H1 w1') from hCir.out.2)
                    clear hCir
                    obtain ⟨bS, oS, x, rfl, hbS, hx, cx⟩ := (hX.out _ K.x).1.at_ ha2
                    obtain ⟨y, hy⟩ := at_of_lt (l := L) (k := at_) (by have := hLl.out; omega)
                    have cy := K.hts.cell hy
                    have hrmx := Lib.hid (hrm.out L at_ x y hx hy)
                    have hfit := Lib.hid (hI.out.fit at_)
                    obtain ⟨yA, yc, yl⟩ := y
                    dsimp only [hbE] at *
                    clear hx hy
                    have i0 : (0 : Int) ≤ (at_ : Int) := by omega
                    have i1 : (at_ : Int) < (nS : Int) := by omega
                    have hbf2 : lo ≤ befH lo nS at_ ∧ befH lo nS at_ < nS := by unfold befH; split <;> omega
                    by_cases hfu : x - (yl.length : Int) ≤ 0
                    · have hC3 := hC2.out
                      rw [hrmx.out, if_pos hfu] at hC3
                      have hC4 := Lib.hid hC3
                      have hlen : (yl.length : Int) = x := by have := hfit.out; rw [hrmx.out] at this; omega
                      have heq : ((yl.length : Int) == x) = true := by rw [hlen]; simp
                      clear hC2 hC3 hlen
                      go_wp2
                      go_quiet (fail)
                      go_wp2_with fail
                      refine (before_c at_ lo nS _ ha1 ha2 (by omega)).mono ?_; rintro e w9 ⟨rfl, rfl⟩
                      go_wp2
                      go_roundg g
                      case measure => omega
                      case rel => exact ⟨_, rfl, hbf2.1, hbf2.2, hC4, K.below (below_drewN (Below.refl _ _) _), hb17⟩
                    · have hC3 := hC2.out
                      rw [hrmx.out, if_neg hfu] at hC3
                      have hC4 := Lib.hid hC3
                      have hpos := Lib.hid (show 0 < remH S (L.map Hb.l) at_ by rw [hrmx.out]; omega)
                      have heq : ((yl.length : Int) == x) = false := beq_eq_false_iff_ne.2 (by omega)
                      clear hC2 hC3
                      go_wp2
                      go_quiet (fail)
                      go_wp2
                      go_meet
                      case rel => exact ⟨at_, g, rfl, ha1, ha2, hpos, hC4, K.below (below_drewN (Below.refl _ _) _), hb17⟩
                case rest =>
                  clear hCir hK17 hb17 ha1 ha2
                  rename World => wx
                  obtain ⟨at_, kc, rfl, ha1, ha2, hpos, hCir, K, hb17⟩ := hcut
                  go_wp2_with fail
                  obtain ⟨bS, oS, x, rfl, hbS, hx, cx⟩ := (hX.out _ K.x).1.at_ ha2
                  obtain ⟨y, hy⟩ := at_of_lt (l := L) (k := at_) (by have := hLl.out; omega)
                  have hrmx := Lib.hid (hrm.out L at_ x y hx hy)
                  have hxb := (hS1'.out x (List.mem_of_getElem? hx)).2
                  have hfit := hI.out.fit at_
                  rw [hrmx.out] at hfit
                  have K9 := K.below (below_drewN (Below.refl _ _) 1)
                  have cy9 := K9.hts.cell hy
                  have lb9 := lt_of_heap K9.hts.row
                  have hz9' := K9.bel.size
                  have hbx := blk_below hb17 (below_drewN (Below.refl _ _) 1)
                  have hne9 : b17 ≠ b := by
                    intro e0
                    have h1 := K9.hts.row
                    rw [← e0, hbx] at h1
                    injection h1 with h1
                    injection h1 with _ h1
                    exact absurd h1 (by decide)
                  have hy' := Lib.hid hy
                  obtain ⟨yA, yc, yl⟩ := y
                  dsimp only [hbE] at *
                  have hyl : yl.length ≤ 1000 := by omega
                  have iq0 : (0 : Int) ≤ (at_ : Int) := by omega
                  have iq1 : (at_ : Int) < (nS : Int) := by omega
                  obtain ⟨i0, hi0, hz0, hz1, hz2⟩ := info_parts info_strH
                  clear hx hy cx hbS hb17
                  refine wp_region_inv (by kernel_rfl) (fun listed a w' => ∃ xs : Nat → Value, a = { tmps := #[.agg #[.int .i64 lo', .int .i64 hi', .int .i64 le', .int .i64 ci], .slice A O.length c, .pointer (some ⟨w.heap.size, 0, none⟩), undef, .slice none 0 0, .int .i64 0, .slice (some ⟨bS, oS, none⟩) nS cS, .int .i64 0, .slice (some ⟨b, 0, none⟩) nS nS, .int .i64 ↑c0, .int .i64 ↑lo, .int .i64 ↑M, undef, u13, .slice (some ⟨bO, oO, none⟩) O.length cO, .int .i64 ↑at_, undef, .pointer (some ⟨b17, 0, none⟩), undef, undef, undef, undef, u22, u23, u24, u25, u26, u27, u28, u29, u30, u31, u32, u33, u34, u35, u36, u37, u38, u39, u40, u41, .slice (some ⟨bS, oS, none⟩) nS cS, .int .i64 ↑nS, .int .i64 ↑c0, .int .i64 ↑lo, .slice (some ⟨bS, oS, none⟩) nS cS, .int .i64 ↑lo, .slice A48 (nS - lo) (cS - lo), .int .i64 ↑(nS - lo), .int .i64 ↑(nS - lo), .bool false, u52, u53, u54, u55, u56, u57, .slice A O.length c, .slice (some ⟨bO, oO, none⟩) O.length cO, .slice (some ⟨bS, oS, none⟩) nS cS, .int .i64 ↑nS, .int .i64 (↑nS - 1), .slice (some ⟨bO, oO, none⟩) O.length cO, .int .i64 ↑M, .slice (some ⟨bO, oO, none⟩) M cO, .int .i64 ↑M, .int .i64 ↑k, .bool true, .pointer (some ⟨bO, oO + k * 2, none⟩), .agg #[.string who, .int .i64 tm], u71, u72, u73, u74, u75, u76, u77, u78, u79, u80, u81, u82, u83, u84, u85, xs 0, xs 1, xs 2, xs 3, xs 4, xs 5, xs 6, xs 7, xs 8, xs 9, xs 10, u97, u98, u99, u100, u101, u102, u103, u104, u105, u106, u107, u108, u109, u110, u111, u112, u113, u114, u115, u116, undef, undef, undef, u120, u121, u122, u123, u124, u125, u126, u127, u128, u129, u130, u131, u132, u133, u134, u135, u136, u137, u138, u139, u140, u141, u142, u143], defers := [] } ∧ (∀ j, listed.getD j false = true → CV [some (.slice (some ⟨b, 0, none⟩) nS nS), some (.int .i64 ↑at_), some (.slice (some ⟨b, 0, none⟩) nS nS), some (.int .i64 ↑at_), some (.pointer (some ⟨b, at_, none⟩)), some (.slice yA yl.length yc), some (.pointer (some ⟨b17, 0, none⟩)), some (.string who), none, none, some (.pointer (some ⟨b, at_, none⟩)), none] j w' (xs j)) ∧ ApSt (w.heap.size) 9 1 (yl.length) (strsH yl) ([.string who]) (wx.drew) 5 8 9 11 ⟨b, at_, none⟩ listed xs w') ?h0 (AllOps.of ?hs) ?he
                  case h0 => exact ⟨fun j => match j with | 0 => u86 | 1 => u87 | 2 => u88 | 3 => u89 | 4 => u90 | 5 => u91 | 6 => u92 | 7 => u93 | 8 => u94 | 9 => u95 | 10 => u96 | _ => undef, rfl, (fun j hj => by rw [rep_falseA] at hj; cases hj), ApSt.start⟩
                  case hs =>
                    refine ⟨?_, ?_, ?_, ?_, ?_, ?_, ?_, ?_, ?_, ?_, ?_, ?_, trivial⟩
                    · intro listed a w' hs hI h0 hd K2 hK
                      obtain ⟨xs, rfl, hC, hW⟩ := hI
                      have hK2 := Lib.hid hK
                      have hC2 := Lib.hid hC
                      clear hd hK hC h0
                      go_simp
                      exact hK2.out _ _ ⟨updV xs 0 (.slice (some ⟨b, 0, none⟩) nS nS), by simp [updV], cond_set hC2.out (fun _ _ h => h) (CV.of rfl rfl), hW.keep (by decide) (by decide) (by decide) (by decide)⟩
                    · intro listed a w' hs hI h0 hd K2 hK
                      obtain ⟨xs, rfl, hC, hW⟩ := hI
                      have hK2 := Lib.hid hK
                      have hC2 := Lib.hid hC
                      clear hd hK hC h0
                      go_simp
                      exact hK2.out _ _ ⟨updV xs 1 (.int .i64 ↑at_), by simp [updV], cond_set hC2.out (fun _ _ h => h) (CV.of rfl rfl), hW.keep (by decide) (by decide) (by decide) (by decide)⟩
                    · intro listed a w' hs hI h0 hd K2 hK
                      obtain ⟨xs, rfl, hC, hW⟩ := hI
                      have hK2 := Lib.hid hK
                      have hC2 := Lib.hid hC
                      clear hd hK hC h0
                      go_simp
                      exact hK2.out _ _ ⟨updV xs 2 (.slice (some ⟨b, 0, none⟩) nS nS), by simp [updV], cond_set hC2.out (fun _ _ h => h) (CV.of rfl rfl), hW.keep (by decide) (by decide) (by decide) (by decide)⟩
                    · intro listed a w' hs hI h0 hd K2 hK
                      obtain ⟨xs, rfl, hC, hW⟩ := hI
                      have hK2 := Lib.hid hK
                      have hC2 := Lib.hid hC
                      clear hd hK hC h0
                      go_simp
                      exact hK2.out _ _ ⟨updV xs 3 (.int .i64 ↑at_), by simp [updV], cond_set hC2.out (fun _ _ h => h) (CV.of rfl rfl), hW.keep (by decide) (by decide) (by decide) (by decide)⟩
                    · intro listed a w' hs hI h0 hd K2 hK
                      obtain ⟨xs, rfl, hC, hW⟩ := hI
                      have e2 : xs 2 = .slice (some ⟨b, 0, none⟩) nS nS := (hC 2 (hd ⟨2, .data⟩ (by simp) rfl)) _ rfl
                      have e3 : xs 3 = .int .i64 ↑at_ := (hC 3 (hd ⟨3, .data⟩ (by simp) rfl)) _ rfl
                      have hK2 := Lib.hid hK
                      have hC2 := Lib.hid hC
                      clear hd hK hC h0
                      go_simp
                      exact hK2.out _ _ ⟨updV xs 4 (.pointer (some ⟨b, at_, none⟩)), by simp [updV, e2, e3], cond_set hC2.out (fun _ _ h => h) (CV.of rfl rfl), hW.keep (by decide) (by decide) (by decide) (by decide)⟩
                    · intro listed a w' hs hI h0 hd K2 hK
                      obtain ⟨xs, rfl, hC, hW⟩ := hI
                      have e4 : xs 4 = .pointer (some ⟨b, at_, none⟩) := (hC 4 (hd ⟨4, .data⟩ (by simp) rfl)) _ rfl
                      have hK2 := Lib.hid hK
                      have hC2 := Lib.hid hC
                      have B9 := hW.below h0
                      have c9 : w'.cell? ⟨b, at_, none⟩ = some (.slice yA yl.length yc) := (B9.cell (p := ⟨b, at_, none⟩) lb9).trans cy9
                      have hU9 := Lib.hid (hW.row h0 (Below.refl _ _) (v := .slice yA yl.length yc) (own_below (K9.hts.own at_ _ hy'.out) B9) (by decide) (by decide) (by decide))
                      clear hd hK hC h0
                      go_simp
                      exact hK2.out _ _ ⟨updV xs 5 (.slice yA yl.length yc), by simp [updV, e4], cond_set hC2.out (fun _ _ h => h) (CV.of rfl rfl), hU9.out⟩
                    · intro listed a w' hs hI h0 hd K2 hK
                      obtain ⟨xs, rfl, hC, hW⟩ := hI
                      have hK2 := Lib.hid hK
                      have hC2 := Lib.hid hC
                      clear hd hK hC h0
                      go_simp
                      exact hK2.out _ _ ⟨updV xs 6 (.pointer (some ⟨b17, 0, none⟩)), by simp [updV], cond_set hC2.out (fun _ _ h => h) (CV.of rfl rfl), hW.keep (by decide) (by decide) (by decide) (by decide)⟩
                    · intro listed a w' hs hI h0 hd K2 hK
                      obtain ⟨xs, rfl, hC, hW⟩ := hI
                      have e6 : xs 6 = .pointer (some ⟨b17, 0, none⟩) := (hC 6 (hd ⟨6, .data⟩ (by simp) rfl)) _ rfl
                      have hK2 := Lib.hid hK
                      have hC2 := Lib.hid hC
                      have q9 := hW.blkTyp hbx (by decide) hne9
                      have c9 := (blk_facts q9).1 0
                      clear hd hK hC h0
                      go_simp
                      exact hK2.out _ _ ⟨updV xs 7 (.string who), by simp [updV, e6], cond_set hC2.out (fun _ _ h => h) (CV.of rfl rfl), hW.keep (by decide) (by decide) (by decide) (by decide)⟩
                    · intro listed a w' hs hI h0 hd K2 hK
                      obtain ⟨xs, rfl, hC, hW⟩ := hI
                      have e7 : xs 7 = .string who := (hC 7 (hd ⟨7, .data⟩ (by simp) rfl)) _ rfl
                      have hK2 := Lib.hid hK
                      have hC2 := Lib.hid hC
                      have hL9 := Lib.hid (hW.lay h0 (by decide) (by decide) (by decide))
                      clear hd hK hC h0
                      go_simp
                      exact hK2.out _ _ ⟨updV xs 8 (.slice (some ⟨w'.heap.size, 0, none⟩) 1 1), by simp [updV, e7], cond_set hC2.out (fun _ _ h => h) (CV.free rfl), hL9.out⟩
                    · intro listed a w' hs hI h0 hd K2 hK
                      obtain ⟨xs, rfl, hC, hW⟩ := hI
                      have e5 : xs 5 = .slice yA yl.length yc := (hC 5 (hd ⟨5, .data⟩ (by simp) rfl)) _ rfl
                      have hK2 := Lib.hid hK
                      have hC2 := Lib.hid hC
                      obtain ⟨o9, B9, z9, q9, hz9, hnx⟩ := hW.app h0 (hd ⟨5, .data⟩ (by simp) rfl) (hd ⟨8, .data⟩ (by simp) rfl) (by decide) (by decide) (by decide)
                      rw [e5] at o9 hnx
                      have hnx' := Lib.hid hnx
                      clear hd hK hC hnx
                      refine step_append_lies _ rfl (.tmp 91) (.tmp 94) 76 (by rfl) _ 9 i0 _ 1 16 Tryz.underlying76 hi0 hz0 hz1 hz2 (by rfl) (by omega) _ _ _ (by show xs 5 = _; exact e5) o9 _ 1 1 ([.string who]) (by show xs 8 = _; exact q9) rfl (World.news_of_block hz9) (by simp [Value.oneCell']) (by omega) (by unfold maxLen; omega) (by omega) (Nat.le_trans hz9' B9.size) _ rfl ?_
                      intro g cap w2 ho hg hat hlt
                      clear h0
                      exact hK2.out _ _ ⟨updV xs 9 (.slice (some ⟨g, 0, none⟩) ((yl.length) + 1) cap), by first | rfl | simp [updV, Act.put], cond_set hC2.out (fun _ _ h => h) (CV.free rfl), hnx'.out g cap w2 ho hg hat⟩
                    · intro listed a w' hs hI h0 hd K2 hK
                      obtain ⟨xs, rfl, hC, hW⟩ := hI
                      have e0 : xs 0 = .slice (some ⟨b, 0, none⟩) nS nS := (hC 0 (hd ⟨0, .data⟩ (by simp) rfl)) _ rfl
                      have e1 : xs 1 = .int .i64 ↑at_ := (hC 1 (hd ⟨1, .data⟩ (by simp) rfl)) _ rfl
                      have hK2 := Lib.hid hK
                      have hC2 := Lib.hid hC
                      clear hd hK hC h0
                      go_simp
                      exact hK2.out _ _ ⟨updV xs 10 (.pointer (some ⟨b, at_, none⟩)), by simp [updV, e0, e1], cond_set hC2.out (fun _ _ h => h) (CV.of rfl rfl), hW.keep (by decide) (by decide) (by decide) (by decide)⟩
                    · intro listed a w' hs hI h0 hd K2 hK
                      obtain ⟨xs, rfl, hC, hW⟩ := hI
                      have e10 : xs 10 = .pointer (some ⟨b, at_, none⟩) := (hC 10 (hd ⟨10, .data⟩ (by simp) rfl)) _ rfl
                      have hK2 := Lib.hid hK
                      have hC2 := Lib.hid hC
                      obtain ⟨w1, g, cap, b1, b2, b3, b4, hnx⟩ := hW.store h0 (hd ⟨9, .data⟩ (by simp) rfl) (by decide) (by decide) (by decide)
                      have K1 := K9.below b1
                      have r9 := blk_grown K1.hts.row b3 (fun e => own_neH b2 K1.hts.row (by decide) e.symm)
                      have f9 := (blk_facts r9).2 at_
                      have c9 : w'.cell? ⟨b, at_, none⟩ = some (.slice yA yl.length yc) := by rw [(blk_facts r9).1 at_]; simp [hy'.out, hbE]
                      clear r9 K1
                      have hnx' := Lib.hid hnx
                      clear hd hK hC h0
                      go_simp
                      exact hK2.out _ _ ⟨updV xs 11 (undef), by simp [updV, e10, b4], cond_set hC2.out (fun _ _ h => h) (CV.free rfl), hnx'.out _⟩
                  case he =>
                    intro listed a w' hs hI hr
                    obtain ⟨xs, rfl, hC, hW⟩ := hI
                    have hal := all_listed hs hr ⟨rfl, rfl, rfl, rfl, rfl, rfl, rfl, rfl, rfl, rfl, rfl, rfl, trivial⟩
                    have e0 : xs 0 = .slice (some ⟨b, 0, none⟩) nS nS := (hC 0 (hal 0 (by simp))) _ rfl
                    have e1 : xs 1 = .int .i64 ↑at_ := (hC 1 (hal 1 (by simp))) _ rfl
                    have e2 : xs 2 = .slice (some ⟨b, 0, none⟩) nS nS := (hC 2 (hal 2 (by simp))) _ rfl
                    have e3 : xs 3 = .int .i64 ↑at_ := (hC 3 (hal 3 (by simp))) _ rfl
                    have e4 : xs 4 = .pointer (some ⟨b, at_, none⟩) := (hC 4 (hal 4 (by simp))) _ rfl
                    have e5 : xs 5 = .slice yA yl.length yc := (hC 5 (hal 5 (by simp))) _ rfl
                    have e6 : xs 6 = .pointer (some ⟨b17, 0, none⟩) := (hC 6 (hal 6 (by simp))) _ rfl
                    have e7 : xs 7 = .string who := (hC 7 (hal 7 (by simp))) _ rfl
                    have e10 : xs 10 = .pointer (some ⟨b, at_, none⟩) := (hC 10 (hal 10 (by simp))) _ rfl
                    obtain ⟨w1, w2, g, cap, b1, b2, b3, b4, b5, b6, b7⟩ := hW.done (hal 9 (by simp)) (hal 11 (by simp))
                    clear hC hs hr hal hW
                    rw [e5] at b5 b6
                    have K1 := (K9.below b1).app (s := who) hy'.out b4 b5 b6
                    subst b7
                    try dsimp only
                    have hmp := map_push (s := who) hy'.out (some ⟨g, 0, none⟩) cap
                    have hilt : at_ < (L.map Hb.l).length := by rw [List.length_map, hLl.out]; exact ha2
                    have hI9 := hI.out.push hpos.out
                    have hro9 := room_push (S := S) (s := who) (lo := lo) (m := nS - lo) hilt ha1 (by omega)
                    rw [hM.out] at hro9
                    have hE9 : ∀ i, i < lo → (pushH at_ who (L.map Hb.l)).getD i [] = [] := fun i hi => by rw [push_ne (by omega)]; exact hE.out i hi
                    have hC9 := hCir.out
                    rw [← hmp] at hI9 hro9 hE9 hC9
                    clear e0 e1 e2 e3 e4 e5 e6 e7 e10 b1 b2 b3 b4 b5 b6 hmp K9 K cy9 lb9 hne9 hbx hi0 hz0 hz1 hz2 hI hM hE hCir hpos hMk hilt
                    generalize w2.setCell ⟨b, at_, none⟩ (.slice (some ⟨g, 0, none⟩) (yl.length + 1) cap) = w8 at *
                    generalize L.set at_ ⟨some ⟨g, 0, none⟩, cap, yl ++ [who]⟩ = L8 at *
                    have hI9' := Lib.hid hI9
                    have hro9' := Lib.hid (show roomH S (L8.map Hb.l) lo (nS - lo) = (M : Int) - ((k + 1 : Nat) : Int) by rw [hro9]; omega)
                    have hE9' := Lib.hid hE9
                    have hC9' := Lib.hid hC9
                    clear hI9 hro9 hE9 hC9
                    have hbf2 : lo ≤ befH lo nS at_ ∧ befH lo nS at_ < nS := by unfold befH; split <;> omega
                    go_wp2_with fail
                    refine (before_c at_ lo nS _ ha1 ha2 (by omega)).mono ?_; rintro e w9 ⟨rfl, rfl⟩
                    go_wp2
                    go_roundw
                    case rel => exact ⟨k + 1, L8, kc, _, by omega, by go_num, rfl, hbf2.1, hbf2.2, K1, hI9', hro9', hE9', hC9'⟩
                    case measure => simp [intOf]; omega
              · obtain rfl : k = M := by omega
                have hro0 : roomH S (L.map Hb.l) lo (nS - lo) = 0 := by rw [hM.out]; omega
                have hst : H1 = L.map Hb.l ∧ w1' = (O.map Sd.who).drop k := by
                  have h := hCir.out
                  cases kc with
                  | zero => exact h.2
                  | succ kc => exact absurd hro0 h.1
                have hI1 : InvH S H1 w1' := by rw [hst.1, hst.2]; exact hI.out
                have hall := Lib.hid (And.intro hst.1.symm (And.intro hst.2 (And.intro hI1 (And.intro (show ∀ i, lo ≤ i → i < nS → remH S H1 i ≤ 0 from fun i h3 h4 => room_zero hI1.fit (by rw [hst.1]; exact hro0) h3 (by omega)) (show ∀ i, i < lo → H1.getD i [] = [] by rw [hst.1]; exact hE.out)))))
                clear hro0 hst hI1 hI hM hE hCir
                go_wp2
                go_meet
                case rel => exact ⟨L, K, hall.out⟩
        case rest =>
          clear hCir D0 hM' hRM' hL0 hRR'
          rename World => w4
          obtain ⟨L, K, e1, e2, hI1, hfz, hE1⟩ := hcut
          have hfl := Lib.hid (show fillH S lo (L.map Hb.l) ((O.map Sd.who).drop M) = R by
            rw [← hfill, e1, e2]
            obtain ⟨d, hd⟩ : ∃ d, nS = lo + d := ⟨nS - lo, by omega⟩
            rw [hd]
            exact (fill_low d (fun i h1 h2 => hfz i h1 (by omega))).symm)
          have hI2 := Lib.hid (show InvH S (L.map Hb.l) ((O.map Sd.who).drop M) by rw [e1, ← e2]; exact hI1)
          have hE2 := Lib.hid (show ∀ i, i < lo → (L.map Hb.l).getD i [] = [] by rw [e1]; exact hE1)
          obtain ⟨A18, hs1, hs2, r18⟩ := slice_frU (α := Sd) (enc := sdE) (A := AO) (n := O.length) (c := cO) (k := M) hcO hMn Tryz.underlying26 Tryz.sizeOf40
          have hsub := Lib.hid (fun v h => r18 v O h)
          clear hfill e1 e2 hI1 hfz hE1 r18 H1 w1'
          go_wp2_with fail
          clear hs1 hs2
          go_loopw [18, 19] (fun u iv wr => ∃ (p q : Nat) (A' : Option Addr) (L : List Hb), p ≤ lo ∧ iv = .int .i64 ((p : Int) - 1) ∧ u = .slice A' (O.length - q) (cO - q) ∧ q ≤ O.length ∧ Hid (∀ v, RSd v AO O.length O → RSd v A' (O.length - q) (O.drop q)) ∧ Dr w b X L wr ∧ Hid (InvH S (L.map Hb.l) ((O.map Sd.who).drop q)) ∧ Hid (fillH S p (L.map Hb.l) ((O.map Sd.who).drop q) = R) ∧ Hid (∀ i, i < p → (L.map Hb.l).getD i [] = [])) (fun _ iv _ => (intOf iv + 1).toNat)
          case atStart => exact ⟨lo, M, A18, L, Nat.le_refl _, rfl, rfl, hMn, hsub, K, hI2, hfl, hE2⟩
          case round =>
            clear K hI2 hfl hE2 hsub L
            rename World => wr
            obtain ⟨p, q, A', L, hp, rfl, rfl, hq, hsub, K, hI, hfl, hE⟩ := hrel
            have hLl := Lib.hid (show L.length = nS by have := hI.out.len; rw [List.length_map] at this; rw [this]; exact hNl.out)
            cases p with
            | zero =>
              rw [show ((0 : Nat) : Int) - 1 = -1 from rfl]
              have hR9 : L.map Hb.l = R := hfl.out
              have hHn : (L.map (fun x : Hb => (⟨x.A, x.l.length, x.c, x.l⟩ : Hn))).map Hn.l = R := by rw [← hR9, List.map_map]; rfl
              have hll : ∀ x ∈ L.map (fun x : Hb => (⟨x.A, x.l.length, x.c, x.l⟩ : Hn)), (x.l.length : Int) ≤ hi' - lo' + 1 := fun x hx => by
                obtain ⟨y, hy, rfl⟩ := List.mem_map.1 hx
                obtain ⟨i, hi, rfl⟩ := List.getElem_of_mem hy
                have h1 := hI.out.fit i
                unfold remH at h1
                have hil : i < S.length := by have := hI.out.len; rw [List.length_map] at this; omega
                rw [List.getD_eq_getElem?_getD, List.getD_eq_getElem?_getD, List.getElem?_map, List.getElem?_eq_getElem hi, List.getElem?_eq_getElem hil] at h1
                have h2 := (hS1'.out S[i] (List.getElem_mem hil)).2
                simp only [Option.map_some, Option.getD_some] at h1
                dsimp only
                omega
              have hRH : RHn wr (some ⟨b, 0, none⟩) nS (L.map (fun x : Hb => (⟨x.A, x.l.length, x.c, x.l⟩ : Hn))) := by
                refine ⟨⟨by rw [List.length_map]; exact hLl.out, by omega, fun hp => ⟨b, 0, _, _, rfl, K.hts.row, fun k x hx i u hu => ?_⟩⟩, fun x hx => ?_⟩
                · rw [List.getElem?_map] at hx
                  cases hy : L[k]? with
                  | none => rw [hy] at hx; cases hx
                  | some y =>
                    rw [hy] at hx
                    obtain rfl := Option.some.inj hx
                    cases i with
                    | zero =>
                      obtain rfl : (.slice y.A y.l.length y.c : Value) = u := by simpa [hnE] using hu
                      simp [hy, hbE]
                    | succ i => simp [hnE] at hu
                · have hx2 := hll x hx
                  obtain ⟨y, hy, rfl⟩ := List.mem_map.1 hx
                  obtain ⟨i, hi⟩ := List.mem_iff_getElem?.1 hy
                  dsimp only at hx2
                  exact K.hts.rs hi (by omega)
              have hS9 := Lib.hid (hSt.out (some ⟨b, 0, none⟩) nS nS _ wr hRH (by omega) hll)
              rw [hHn] at hS9
              have hP9 := (hX.out _ K.x).2.2
              have z0 := (blk_facts hP9).1 0
              have z1 := (blk_facts hP9).1 1
              have z2 := (blk_facts hP9).1 2
              have z3 := (blk_facts hP9).1 3
              have hB9 := K.bel
              clear hSt hRH hll hHn hR9 hfl hI hE hsub K hX hP9 hrm hLl
              go_wp2_with fail
              refine hS9.out.mono ?_; rintro e w9 ⟨A9, n9, c9, D, rfl, r9, hs9, B9⟩
              have hBf := below_next hB9 B9
              have hs9' := Lib.hid hs9
              clear hS9 hs9 B9 hB9 z0 z1 z2 z3
              go_wp2
              go_ret2
              exact .inr ⟨hE'.out, A9, n9, c9, D, rfl, r9, hs9'.out, hBf⟩
            | succ p =>
              have q1 : ((p + 1 : Nat) : Int) - 1 = (p : Int) := by omega
              have q2 : (0 : Int) ≤ (p : Int) := by omega
              rw [q1]
              clear q1
              obtain ⟨bS, oS, x, rfl, hbS, hx, cx⟩ := (hX.out _ K.x).1.at_ (k := p) (by omega)
              obtain ⟨y, hy⟩ := at_of_lt (l := L) (k := p) (by have := hLl.out; omega)
              have hrmx := hrm.out L p x y hx hy
              have hy0 : y.l = [] := by have h := hE.out p (by omega); rw [List.getD_eq_getElem?_getD, List.getElem?_map, hy] at h; exact h
              have hx0 := (hS1'.out x (List.mem_of_getElem? hx)).1
              have hxle : x ≤ (O.length - q : Nat) := by
                have h1 := room_ge hI.out.fit (lo := 0) (j := p) (m := S.length) (Nat.zero_le _) (by rw [hNl.out]; omega)
                have h2 := hI.out.sum
                rw [hrmx, hy0] at h1
                rw [List.length_drop, hwl.out] at h2
                simp only [List.length_nil] at h1
                omega
              obtain ⟨sx, rfl⟩ : ∃ sx : Nat, x = (sx : Int) := ⟨x.toNat, by omega⟩
              have hrm0 := Lib.hid (show remH S (L.map Hb.l) p = (sx : Int) - ((0 : Nat) : Int) by rw [hrmx, hy0]; simp)
              have hcS2 : sx ≤ cO - q := by omega
              have hsn : sx ≤ O.length - q := by omega
              have j4 : (0 : Int) ≤ (sx : Int) := by omega
              have j5 : (sx : Int) ≤ ((cO - q : Nat) : Int) := by omega
              have j6 : (p : Int) < (nS : Int) := by omega
              have hE3 := Lib.hid (fun i (hi : i < p) => hE.out i (by omega))
              have hxS := Lib.hid (fun (z : Int) (hz : S[p]? = some z) => show (sx : Int) = z by rw [hx] at hz; exact Option.some.inj hz)
              clear hx hy hrmx hy0 hx0 hxle hE
              go_wp2_with fail
              go_loopw [119] (fun jv wx => ∃ (j : Nat) (L : List Hb), j ≤ sx ∧ jv = .int .i64 j ∧ Dr w b X L wx ∧ Hid (InvH S (L.map Hb.l) ((O.map Sd.who).drop (q + j))) ∧ Hid (fillH S (p + 1) (L.map Hb.l) ((O.map Sd.who).drop (q + j)) = R) ∧ Hid (remH S (L.map Hb.l) p = (sx : Int) - (j : Int)) ∧ Hid (∀ i, i < p → (L.map Hb.l).getD i [] = [])) (fun jv _ => sx - (intOf jv).toNat)
              case atStart => exact ⟨0, L, Nat.zero_le _, rfl, K, hI, hfl, hrm0, hE3⟩
              case round =>
                clear K hI hfl hrm0 hE3 cx hLl
                rename World => wx
                obtain ⟨jx, L, hj, rfl, K, hI, hfl, hrm0, hE⟩ := hrel
                have hLl := Lib.hid (show L.length = nS by have := hI.out.len; rw [List.length_map] at this; rw [this]; exact hNl.out)
                by_cases hlt : jx < sx
                · obtain ⟨bO, oO, z, rfl, hbO, hz, cO0, cO1⟩ := RSd_at2 (hsub.out _ (hX.out _ K.x).2.1) (k := jx) (by omega)
                  have hdr : (O.map Sd.who).drop (q + jx) = z.who :: (O.map Sd.who).drop (q + jx + 1) := drop_at (by rw [List.getElem?_drop] at hz; rw [List.getElem?_map, hz]; rfl)
                  rw [hdr] at hI hfl
                  obtain ⟨who, tm⟩ := z
                  dsimp only at *
                  clear hz hdr
                  have hb21 := heap_alloc_new wx (.cells #[.string who, .int .i64 tm] 40)
                  have hK21 := K.below (below_new wx (.cells #[.string who, .int .i64 tm] 40))
                  have j7 : (0 : Int) ≤ (jx : Int) := by omega
                  have j8 : (jx : Int) < (sx : Int) := by omega
                  have hlt2 : p < nS := by omega
                  go_upto_region 31 with (fail)
                  generalize hw21 : wx.alloc (.cells #[.string who, .int .i64 tm] 40) = w21 at *
                  generalize wx.heap.size = b21 at *
                  clear hw21 K cO0 cO1 hbO
                  have K := hK21
                  clear hK21
                  obtain ⟨bS', oS', x, hAe, hbS', hx, cx⟩ := (hX.out _ K.x).1.at_ hlt2
                  obtain ⟨y, hy⟩ := at_of_lt (l := L) (k := p) (by have := hLl.out; omega)
                  have hrmx := Lib.hid (hrm.out L p x y hx hy)
                  have hxb := (hS1'.out x (List.mem_of_getElem? hx)).2
                  have hfit := hI.out.fit p
                  rw [hrmx.out] at hfit
                  have K9 := K.below (below_drewN (Below.refl _ _) 1)
                  have cy9 := K9.hts.cell hy
                  have lb9 := lt_of_heap K9.hts.row
                  have hz9' := K9.bel.size
                  have hbx := blk_below hb21 (below_drewN (Below.refl _ _) 1)
                  have hne9 : b21 ≠ b := by
                    intro e0
                    have h1 := K9.hts.row
                    rw [← e0, hbx] at h1
                    injection h1 with h1
                    injection h1 with _ h1
                    exact absurd h1 (by decide)
                  have hy' := Lib.hid hy
                  obtain ⟨yA, yc, yl⟩ := y
                  dsimp only [hbE] at *
                  have hyl : yl.length ≤ 1000 := by omega
                  have iq0 : (0 : Int) ≤ (p : Int) := by omega
                  have iq1 : (p : Int) < (nS : Int) := by omega
                  obtain ⟨i0, hi0, hz0, hz1, hz2⟩ := info_parts info_strH
                  clear hx hy cx hbS' hb21 hAe
                  refine wp_region_inv (by kernel_rfl) (fun listed a w' => ∃ xs : Nat → Value, a = { tmps := #[.agg #[.int .i64 lo', .int .i64 hi', .int .i64 le', .int .i64 ci], .slice A O.length c, .pointer (some ⟨w.heap.size, 0, none⟩), undef, .slice none 0 0, .int .i64 0, .slice (some ⟨bS, oS, none⟩) nS cS, .int .i64 0, .slice (some ⟨b, 0, none⟩) nS nS, .int .i64 ↑c0, .int .i64 ↑lo, .int .i64 ↑M, undef, u13, .slice AO O.length cO, u15, undef, u17, .slice (some ⟨bO, oO, none⟩) (O.length - q) (cO - q), .int .i64 ↑p, undef, .pointer (some ⟨b21, 0, none⟩), u22, u23, u24, u25, u26, u27, u28, u29, u30, u31, u32, u33, u34, u35, u36, u37, u38, u39, u40, u41, .slice (some ⟨bS, oS, none⟩) nS cS, .int .i64 ↑nS, .int .i64 ↑c0, .int .i64 ↑lo, .slice (some ⟨bS, oS, none⟩) nS cS, .int .i64 ↑lo, .slice A48 (nS - lo) (cS - lo), .int .i64 ↑(nS - lo), .int .i64 ↑(nS - lo), .bool false, u52, u53, u54, u55, u56, u57, .slice A O.length c, .slice AO O.length cO, .slice (some ⟨bS, oS, none⟩) nS cS, .int .i64 ↑nS, .int .i64 (↑nS - 1), .slice AO O.length cO, .int .i64 ↑M, .slice AO M cO, .int .i64 ↑M, u67, u68, u69, u70, u71, u72, u73, u74, u75, u76, u77, u78, u79, u80, u81, u82, u83, u84, u85, u86, u87, u88, u89, u90, u91, u92, u93, u94, u95, u96, u97, u98, u99, u100, u101, u102, .slice AO O.length cO, .int .i64 ↑M, .slice A18 (O.length - M) (cO - M), .int .i64 ↑lo, .int .i64 (↑lo - 1), .int .i64 ↑p, .bool true, u110, u111, .slice (some ⟨bO, oO, none⟩) (O.length - q) (cO - q), .slice (some ⟨bS, oS, none⟩) nS cS, .int .i64 ↑p, .pointer (some ⟨bS, oS + p, none⟩), .int .i64 ↑sx, .slice (some ⟨bO, oO, none⟩) sx (cO - q), .int .i64 ↑sx, .int .i64 ↑jx, .bool true, .pointer (some ⟨bO, oO + jx * 2, none⟩), .agg #[.string who, .int .i64 tm], xs 0, xs 1, xs 2, xs 3, xs 4, xs 5, xs 6, xs 7, xs 8, xs 9, xs 10, u134, u135, u136, u137, u138, u139, u140, u141, u142, u143], defers := [] } ∧ (∀ j, listed.getD j false = true → CV [some (.slice (some ⟨b, 0, none⟩) nS nS), some (.int .i64 ↑p), some (.slice (some ⟨b, 0, none⟩) nS nS), some (.int .i64 ↑p), some (.pointer (some ⟨b, p, none⟩)), some (.slice yA yl.length yc), some (.pointer (some ⟨b21, 0, none⟩)), some (.string who), none, none, some (.pointer (some ⟨b, p, none⟩)), none] j w' (xs j)) ∧ ApSt (w.heap.size) 9 1 (yl.length) (strsH yl) ([.string who]) (w21.drew) 5 8 9 11 ⟨b, p, none⟩ listed xs w') ?h0 (AllOps.of ?hs) ?he
                  case h0 => exact ⟨fun j => match j with | 0 => u123 | 1 => u124 | 2 => u125 | 3 => u126 | 4 => u127 | 5 => u128 | 6 => u129 | 7 => u130 | 8 => u131 | 9 => u132 | 10 => u133 | _ => undef, rfl, (fun j hj => by rw [rep_falseA] at hj; cases hj), ApSt.start⟩
                  case hs =>
                    refine ⟨?_, ?_, ?_, ?_, ?_, ?_, ?_, ?_, ?_, ?_, ?_, ?_, trivial⟩
                    · intro listed a w' hs hI h0 hd K2 hK
                      obtain ⟨xs, rfl, hC, hW⟩ := hI
                      have hK2 := Lib.hid hK
                      have hC2 := Lib.hid hC
                      clear hd hK hC h0
                      go_simp
                      exact hK2.out _ _ ⟨updV xs 0 (.slice (some ⟨b, 0, none⟩) nS nS), by simp [updV], cond_set hC2.out (fun _ _ h => h) (CV.of rfl rfl), hW.keep (by decide) (by decide) (by decide) (by decide)⟩
                    · intro listed a w' hs hI h0 hd K2 hK
                      obtain ⟨xs, rfl, hC, hW⟩ := hI
                      have hK2 := Lib.hid hK
                      have hC2 := Lib.hid hC
                      clear hd hK hC h0
                      go_simp
                      exact hK2.out _ _ ⟨updV xs 1 (.int .i64 ↑p), by simp [updV], cond_set hC2.out (fun _ _ h => h) (CV.of rfl rfl), hW.keep (by decide) (by decide) (by decide) (by decide)⟩
                    · intro listed a w' hs hI h0 hd K2 hK
                      obtain ⟨xs, rfl, hC, hW⟩ := hI
                      have hK2 := Lib.hid hK
                      have hC2 := Lib.hid hC
                      clear hd hK hC h0
                      go_simp
                      exact hK2.out _ _ ⟨updV xs 2 (.slice (some ⟨b, 0, none⟩) nS nS), by simp [updV], cond_set hC2.out (fun _ _ h => h) (CV.of rfl rfl), hW.keep (by decide) (by decide) (by decide) (by decide)⟩
                    · intro listed a w' hs hI h0 hd K2 hK
                      obtain ⟨xs, rfl, hC, hW⟩ := hI
                      have hK2 := Lib.hid hK
                      have hC2 := Lib.hid hC
                      clear hd hK hC h0
                      go_simp
                      exact hK2.out _ _ ⟨updV xs 3 (.int .i64 ↑p), by simp [updV], cond_set hC2.out (fun _ _ h => h) (CV.of rfl rfl), hW.keep (by decide) (by decide) (by decide) (by decide)⟩
                    · intro listed a w' hs hI h0 hd K2 hK
                      obtain ⟨xs, rfl, hC, hW⟩ := hI
                      have e2 : xs 2 = .slice (some ⟨b, 0, none⟩) nS nS := (hC 2 (hd ⟨2, .data⟩ (by simp) rfl)) _ rfl
                      have e3 : xs 3 = .int .i64 ↑p := (hC 3 (hd ⟨3, .data⟩ (by simp) rfl)) _ rfl
                      have hK2 := Lib.hid hK
                      have hC2 := Lib.hid hC
                      clear hd hK hC h0
                      go_simp
                      exact hK2.out _ _ ⟨updV xs 4 (.pointer (some ⟨b, p, none⟩)), by simp [updV, e2, e3], cond_set hC2.out (fun _ _ h => h) (CV.of rfl rfl), hW.keep (by decide) (by decide) (by decide) (by decide)⟩
                    · intro listed a w' hs hI h0 hd K2 hK
                      obtain ⟨xs, rfl, hC, hW⟩ := hI
                      have e4 : xs 4 = .pointer (some ⟨b, p, none⟩) := (hC 4 (hd ⟨4, .data⟩ (by simp) rfl)) _ rfl
                      have hK2 := Lib.hid hK
                      have hC2 := Lib.hid hC
                      have B9 := hW.below h0
                      have c9 : w'.cell? ⟨b, p, none⟩ = some (.slice yA yl.length yc) := (B9.cell (p := ⟨b, p, none⟩) lb9).trans cy9
                      have hU9 := Lib.hid (hW.row h0 (Below.refl _ _) (v := .slice yA yl.length yc) (own_below (K9.hts.own p _ hy'.out) B9) (by decide) (by decide) (by decide))
                      clear hd hK hC h0
                      go_simp
                      exact hK2.out _ _ ⟨updV xs 5 (.slice yA yl.length yc), by simp [updV, e4], cond_set hC2.out (fun _ _ h => h) (CV.of rfl rfl), hU9.out⟩
                    · intro listed a w' hs hI h0 hd K2 hK
                      obtain ⟨xs, rfl, hC, hW⟩ := hI
                      have hK2 := Lib.hid hK
                      have hC2 := Lib.hid hC
                      clear hd hK hC h0
                      go_simp
                      exact hK2.out _ _ ⟨updV xs 6 (.pointer (some ⟨b21, 0, none⟩)), by simp [updV], cond_set hC2.out (fun _ _ h => h) (CV.of rfl rfl), hW.keep (by decide) (by decide) (by decide) (by decide)⟩
                    · intro listed a w' hs hI h0 hd K2 hK
                      obtain ⟨xs, rfl, hC, hW⟩ := hI
                      have e6 : xs 6 = .pointer (some ⟨b21, 0, none⟩) := (hC 6 (hd ⟨6, .data⟩ (by simp) rfl)) _ rfl
                      have hK2 := Lib.hid hK
                      have hC2 := Lib.hid hC
                      have q9 := hW.blkTyp hbx (by decide) hne9
                      have c9 := (blk_facts q9).1 0
                      clear hd hK hC h0
                      go_simp
                      exact hK2.out _ _ ⟨updV xs 7 (.string who), by simp [updV, e6], cond_set hC2.out (fun _ _ h => h) (CV.of rfl rfl), hW.keep (by decide) (by decide) (by decide) (by decide)⟩
                    · intro listed a w' hs hI h0 hd K2 hK
                      obtain ⟨xs, rfl, hC, hW⟩ := hI
                      have e7 : xs 7 = .string who := (hC 7 (hd ⟨7, .data⟩ (by simp) rfl)) _ rfl
                      have hK2 := Lib.hid hK
                      have hC2 := Lib.hid hC
                      have hL9 := Lib.hid (hW.lay h0 (by decide) (by decide) (by decide))
                      clear hd hK hC h0
                      go_simp
                      exact hK2.out _ _ ⟨updV xs 8 (.slice (some ⟨w'.heap.size, 0, none⟩) 1 1), by simp [updV, e7], cond_set hC2.out (fun _ _ h => h) (CV.free rfl), hL9.out⟩
                    · intro listed a w' hs hI h0 hd K2 hK
                      obtain ⟨xs, rfl, hC, hW⟩ := hI
                      have e5 : xs 5 = .slice yA yl.length yc := (hC 5 (hd ⟨5, .data⟩ (by simp) rfl)) _ rfl
                      have hK2 := Lib.hid hK
                      have hC2 := Lib.hid hC
                      obtain ⟨o9, B9, z9, q9, hz9, hnx⟩ := hW.app h0 (hd ⟨5, .data⟩ (by simp) rfl) (hd ⟨8, .data⟩ (by simp) rfl) (by decide) (by decide) (by decide)
                      rw [e5] at o9 hnx
                      have hnx' := Lib.hid hnx
                      clear hd hK hC hnx
                      refine step_append_lies _ rfl (.tmp 128) (.tmp 131) 76 (by rfl) _ 9 i0 _ 1 16 Tryz.underlying76 hi0 hz0 hz1 hz2 (by rfl) (by omega) _ _ _ (by show xs 5 = _; exact e5) o9 _ 1 1 ([.string who]) (by show xs 8 = _; exact q9) rfl (World.news_of_block hz9) (by simp [Value.oneCell']) (by omega) (by unfold maxLen; omega) (by omega) (Nat.le_trans hz9' B9.size) _ rfl ?_
                      intro g cap w2 ho hg hat hlt
                      clear h0
                      exact hK2.out _ _ ⟨updV xs 9 (.slice (some ⟨g, 0, none⟩) ((yl.length) + 1) cap), by first | rfl | simp [updV, Act.put], cond_set hC2.out (fun _ _ h => h) (CV.free rfl), hnx'.out g cap w2 ho hg hat⟩
                    · intro listed a w' hs hI h0 hd K2 hK
                      obtain ⟨xs, rfl, hC, hW⟩ := hI
                      have e0 : xs 0 = .slice (some ⟨b, 0, none⟩) nS nS := (hC 0 (hd ⟨0, .data⟩ (by simp) rfl)) _ rfl
                      have e1 : xs 1 = .int .i64 ↑p := (hC 1 (hd ⟨1, .data⟩ (by simp) rfl)) _ rfl
                      have hK2 := Lib.hid hK
                      have hC2 := Lib.hid hC
                      clear hd hK hC h0
                      go_simp
                      exact hK2.out _ _ ⟨updV xs 10 (.pointer (some ⟨b, p, none⟩)), by simp [updV, e0, e1], cond_set hC2.out (fun _ _ h => h) (CV.of rfl rfl), hW.keep (by decide) (by decide) (by decide) (by decide)⟩
                    · intro listed a w' hs hI h0 hd K2 hK
                      obtain ⟨xs, rfl, hC, hW⟩ := hI
                      have e10 : xs 10 = .pointer (some ⟨b, p, none⟩) := (hC 10 (hd ⟨10, .data⟩ (by simp) rfl)) _ rfl
                      have hK2 := Lib.hid hK
                      have hC2 := Lib.hid hC
                      obtain ⟨w1, g, cap, b1, b2, b3, b4, hnx⟩ := hW.store h0 (hd ⟨9, .data⟩ (by simp) rfl) (by decide) (by decide) (by decide)
                      have K1 := K9.below b1
                      have r9 := blk_grown K1.hts.row b3 (fun e => own_neH b2 K1.hts.row (by decide) e.symm)
                      have f9 := (blk_facts r9).2 p
                      have c9 : w'.cell? ⟨b, p, none⟩ = some (.slice yA yl.length yc) := by rw [(blk_facts r9).1 p]; simp [hy'.out, hbE]
                      clear r9 K1
                      have hnx' := Lib.hid hnx
                      clear hd hK hC h0
                      go_simp
                      exact hK2.out _ _ ⟨updV xs 11 (undef), by simp [updV, e10, b4], cond_set hC2.out (fun _ _ h => h) (CV.free rfl), hnx'.out _⟩
                  case he =>
                    intro listed a w' hs hI hr
                    obtain ⟨xs, rfl, hC, hW⟩ := hI
                    have hal := all_listed hs hr ⟨rfl, rfl, rfl, rfl, rfl, rfl, rfl, rfl, rfl, rfl, rfl, rfl, trivial⟩
                    have e0 : xs 0 = .slice (some ⟨b, 0, none⟩) nS nS := (hC 0 (hal 0 (by simp))) _ rfl
                    have e1 : xs 1 = .int .i64 ↑p := (hC 1 (hal 1 (by simp))) _ rfl
                    have e2 : xs 2 = .slice (some ⟨b, 0, none⟩) nS nS := (hC 2 (hal 2 (by simp))) _ rfl
                    have e3 : xs 3 = .int .i64 ↑p := (hC 3 (hal 3 (by simp))) _ rfl
                    have e4 : xs 4 = .pointer (some ⟨b, p, none⟩) := (hC 4 (hal 4 (by simp))) _ rfl
                    have e5 : xs 5 = .slice yA yl.length yc := (hC 5 (hal 5 (by simp))) _ rfl
                    have e6 : xs 6 = .pointer (some ⟨b21, 0, none⟩) := (hC 6 (hal 6 (by simp))) _ rfl
                    have e7 : xs 7 = .string who := (hC 7 (hal 7 (by simp))) _ rfl
                    have e10 : xs 10 = .pointer (some ⟨b, p, none⟩) := (hC 10 (hal 10 (by simp))) _ rfl
                    obtain ⟨w1, w2, g, cap, b1, b2, b3, b4, b5, b6, b7⟩ := hW.done (hal 9 (by simp)) (hal 11 (by simp))
                    clear hC hs hr hal hW
                    rw [e5] at b5 b6
                    have K1 := (K9.below b1).app (s := who) hy'.out b4 b5 b6
                    subst b7
                    try dsimp only
                    have hmp := map_push (s := who) hy'.out (some ⟨g, 0, none⟩) cap
                    have hilt : p < (L.map Hb.l).length := by rw [List.length_map, hLl.out]; exact hlt2
                    have hpos : 0 < remH S (L.map Hb.l) p := by rw [hrm0.out]; omega
                    have hI9 := hI.out.push hpos
                    have hf9 := hfl.out
                    rw [fill_push hilt hpos] at hf9
                    have hr9 : remH S (pushH p who (L.map Hb.l)) p = (sx : Int) - ((jx + 1 : Nat) : Int) := by rw [rem_push hilt, hrm0.out]; omega
                    have hE9 : ∀ i, i < p → (pushH p who (L.map Hb.l)).getD i [] = [] := fun i hi => by rw [push_ne (by omega)]; exact hE.out i hi
                    rw [← hmp] at hI9 hr9 hE9 hf9
                    clear e0 e1 e2 e3 e4 e5 e6 e7 e10 b1 b2 b3 b4 b5 b6 hmp K9 K cy9 lb9 hne9 hbx hi0 hz0 hz1 hz2 hI hfl hE hrm0 hpos hilt
                    generalize w2.setCell ⟨b, p, none⟩ (.slice (some ⟨g, 0, none⟩) (yl.length + 1) cap) = w8 at *
                    generalize L.set p ⟨some ⟨g, 0, none⟩, cap, yl ++ [who]⟩ = L8 at *
                    have hI9' := Lib.hid hI9
                    have hr9' := Lib.hid hr9
                    have hE9' := Lib.hid hE9
                    have hf9' := Lib.hid hf9
                    clear hI9 hr9 hE9 hf9
                    go_wp2
                    go_roundw
                    case rel => exact ⟨jx + 1, L8, by omega, by go_num, K1, by rw [← Nat.add_assoc]; exact hI9', by rw [← Nat.add_assoc]; exact hf9', hr9', hE9'⟩
                    case measure => simp [intOf]; omega
                · obtain rfl : jx = sx := by omega
                  have hfl2 := Lib.hid (show fillH S p (L.map Hb.l) ((O.map Sd.who).drop (q + jx)) = R by rw [← hfl.out, fill_full (by rw [hrm0.out]; omega)])
                  obtain ⟨A33, hs1, hs2, r33⟩ := slice_frU (α := Sd) (enc := sdE) (A := A') (n := O.length - q) (c := cO - q) (k := jx) (by omega) (by omega) Tryz.underlying26 Tryz.sizeOf40
                  rw [Nat.sub_sub, Nat.sub_sub] at hs1 hs2
                  have hsub2 := Lib.hid (fun v (h : RSd v AO O.length O) => show RSd v A33 (O.length - (q + jx)) (O.drop (q + jx)) by
                    have h2 := r33 v _ (hsub.out v h)
                    rwa [Nat.sub_sub, List.drop_drop] at h2)
                  obtain ⟨bS', oS', x', hAe, hbS', hx', cx'⟩ := (hX.out _ K.x).1.at_ (k := p) (by omega)
                  injection hAe with hAe
                  injection hAe with e1 e2
                  subst e1 e2
                  obtain rfl : ((jx : Nat) : Int) = x' := hxS.out x' hx'
                  clear hfl hsub r33 hrm0 hx'
                  go_wp2
                  go_roundw
                  case rel => exact ⟨p, q + jx, A33, L, by omega, by go_num, rfl, by omega, hsub2, K, hI, hfl2, hE⟩
                  case measure => simp [intOf] <;> omega
end Go.Proofs.YtffhobmkbabllaaGreatDoor
