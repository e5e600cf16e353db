/- RacesStay: what its calls make is memory of its own; two swimmers compared; what a spoilt row leaves. -/
import Derived.Test.YtdbfcneeiiialaaDoorLeadE
import Derived.Test.YtdbfcneeiiialaaDoorEven9
namespace Go.Proofs.YtdbfcneeiiialaaDoor
open Go.RowKit
set_option linter.unusedVariables false

theorem own_ty22 {w : World} {B1 B2 s1 s2 n1 n2 : Nat} {e1 e2 : TypeId} {u1 u2 : Value} {x1 x2 : List Value} (h1 : w.ownsRow B1 e1 s1 u1 n1 x1) (h2 : w.ownsRow B2 e2 s2 u2 n2 x2) (he : e2 ≠ e1) : u2.ownBlock = none ∨ u2.ownBlock ≠ u1.ownBlock := by
  rcases h2.2 with ⟨rfl, _⟩ | ⟨g2, cap2, cur2, rfl, _, hh2, _⟩
  · exact .inl rfl
  · refine .inr ?_
    rcases h1.2 with ⟨rfl, _⟩ | ⟨g1, cap1, cur1, rfl, _, hh1, _⟩
    · simp [Value.ownBlock]
    · intro e
      have e' : g2 = g1 := by simpa [Value.ownBlock] using e
      subst e'
      rw [hh1] at hh2
      injection hh2 with hh2
      injection hh2 with _ hh2
      exact he hh2.symm
/-- phases of their own, with names of their own, of which nothing is said -/
structure SpL (w : World) (base : Nat) (A : Option Addr) (c : Nat) (P : List Ph) (wr : World) : Prop where
  o : wr.ownsRow base 40 3 (.slice A P.length c) P.length (P.flatMap phE)
  wh : ∀ x ∈ P, ∃ xs : List Value, xs.length = x.n ∧ wr.ownsRow base 9 1 (.slice x.A x.n x.c) x.n xs ∧ x.n ≤ 1000
  n : P.length ≤ 1000000
  bel : Below base w wr
theorem own_other {wr : World} {B1 B2 e2 s2 n m g o d c e1 s1 : Nat} {xs ys : List Value} {A : Option Addr} (v : Value) (hx : wr.ownsRow B1 e1 s1 (.slice (some ⟨g, 0, none⟩) n c) n xs) (hy : wr.ownsRow B2 e2 s2 (.slice A m d) m ys) : ∃ ys' : List Value, ys'.length = ys.length ∧ (wr.setCell ⟨g, o, none⟩ v).ownsRow B2 e2 s2 (.slice A m d) m ys' := by
  by_cases e : (Value.slice A m d).ownBlock = some g
  · rcases hy.2 with ⟨h1, _⟩ | ⟨g2, cap, cur, h1, _⟩
    · injection h1 with h1 _ _
      subst h1
      simp [Value.ownBlock] at e
    · injection h1 with h1 _ _
      subst h1
      have e' : g2 = g := by simpa [Value.ownBlock] using e
      subst e'
      exact ⟨_, by rw [List.length_set], (hy.stored o v).1⟩
  · exact ⟨ys, rfl, hy.kept (hx.stored o v).2 (.inr e)⟩
theorem SpL.spoil {w wr : World} {base : Nat} {A : Option Addr} {c n g o c2 : Nat} {P : List Ph} {xs : List Value} (h : SpL w base A c P wr) (hx : wr.ownsRow base 9 1 (.slice (some ⟨g, 0, none⟩) n c2) n xs) (v : Value) : SpL w base A c P (wr.setCell ⟨g, o, none⟩ v) := by
  refine ⟨h.o.kept (hx.stored o v).2 ?_, fun y hy => ?_, h.n, h.bel.setCell (hx.lt g rfl).1 v⟩
  · exact own_ty22 hx h.o (by decide)
  · obtain ⟨ys, h1, h2, h3⟩ := h.wh y hy
    obtain ⟨ys', h4, h5⟩ := own_other (o := o) v hx h2
    exact ⟨ys', h4.trans h1, h5, h3⟩
set_option maxRecDepth 100000 in
theorem sameSw_c (x y : Sw) (w : World) (hw : x.who = y.who) (hs : x.sp = y.sp) (h1 : RI 3 w x.A x.n x.sp) (h2 : RI 3 w y.A y.n y.sp) :
    Calls Tryd.prog 10 #[.agg #[.string x.who, .slice x.A x.n x.c], .agg #[.string y.who, .slice y.A y.n y.c]] w fun e w' => e = .returned (.bool true) ∧ Below w.heap.size w w' := by
  have hq := Lib.hid (fun W g1 g2 => equal_c x.A y.A x.n x.c y.n y.c x.sp y.sp W g1 g2)
  rw [show eqB x.sp y.sp = true from by unfold eqB; rw [hs]; exact beq_self_eq_true _] at hq
  obtain ⟨xw, xA, xn, xc, xs⟩ := x
  obtain ⟨yw, yA, yn, yc, ys⟩ := y
  dsimp only at *
  subst hw hs
  have hB := (below_new w (.cells #[.string xw, .slice xA xn xc] 43)).alloc (below_new w _).size (.cells #[.string xw, .slice yA yn yc] 43)
  have g1 := (h1.alloc (.cells #[.string xw, .slice xA xn xc] 43)).alloc (.cells #[.string xw, .slice yA yn yc] 43)
  have g2 := (h2.alloc (.cells #[.string xw, .slice xA xn xc] 43)).alloc (.cells #[.string xw, .slice yA yn yc] 43)
  have b1 : (xw.toList == xw.toList) = true := beq_self_eq_true _
  go_enter Tryd.func10, Tryd.ntmps10
  go_wp2_with fail
  refine (hq.out _ g1 g2).mono ?_; rintro e w5 ⟨rfl, B5⟩
  have hB5 := below_next hB B5
  go_wp2
  go_ret
  exact ⟨rfl, hB5⟩
set_option maxRecDepth 100000 in
theorem equalSwF_c (A1 A2 : Option Addr) (n c m d : Nat) (l1 l2 : List Sw) (w : World) (h1 : RSw w A1 n l1) (h2 : RSw w A2 m l2) (he : l1.map swD = l2.map swD) :
    Calls Tryd.prog 9 #[.slice A1 n c, .slice A2 m d, .func (.func 10) #[] #[]] w fun e w' => e = .returned (.bool true) ∧ Below w.heap.size w w' := by
  obtain rfl : n = m := by have := congrArg List.length he; simp at this; have := h1.1.len; have := h2.1.len; omega
  have b1 := h1.1.bd
  have hR1 := Lib.hid (fun W B => h1.below (w' := W) B)
  have hR2 := Lib.hid (fun W B => h2.below (w' := W) B)
  have he' := Lib.hid he
  clear h1 h2 he
  go_enter Tryd.func9, Tryd.ntmps9
  go_wp2_with fail
  go_loopw [17] (fun i wr => ∃ k : Nat, k ≤ n ∧ i = .int .i64 k ∧ Below w.heap.size w wr) (fun i _ => n - (intOf i).toNat)
  case atStart => exact ⟨0, Nat.zero_le _, rfl, Below.refl _ _⟩
  case round =>
    rename World => wr
    obtain ⟨k, hk, rfl, hB⟩ := hrel
    by_cases hlt : k < n
    · obtain ⟨bx, ox, x, rfl, hbx, hx, x0, x1, hX⟩ := (hR1.out _ hB).at2 hlt
      obtain ⟨by_, oy, y, rfl, hby, hy, y0, y1, hY⟩ := (hR2.out _ hB).at2 hlt
      have hD : swD x = swD y := by
        have h3 := congrArg (fun q => q[k]?) he'.out
        simp only [List.getElem?_map, hx, hy] at h3
        exact Option.some.inj h3
      have hw : x.who = y.who := congrArg Prod.fst hD
      have hs : x.sp = y.sp := congrArg Prod.snd hD
      have hB5 := (hB.alloc hB.size (.cells #[.string x.who, .slice x.A x.n x.c] 43)).alloc (hB.alloc hB.size (.cells #[.string x.who, .slice x.A x.n x.c] 43)).size (.cells #[.string y.who, .slice y.A y.n y.c] 43)
      have g1 := (hX.alloc (.cells #[.string x.who, .slice x.A x.n x.c] 43)).alloc (.cells #[.string y.who, .slice y.A y.n y.c] 43)
      have g2 := (hY.alloc (.cells #[.string x.who, .slice x.A x.n x.c] 43)).alloc (.cells #[.string y.who, .slice y.A y.n y.c] 43)
      have hS1 := Lib.hid (sameSw_c x y _ hw hs g1 g2)
      obtain ⟨xw, xA, xn, xc, xs⟩ := x
      obtain ⟨yw, yA, yn, yc, ys⟩ := y
      dsimp only at *
      clear hx hy hw hs hD g1 g2 hX hY
      go_wp2_with fail
      refine hS1.out.mono ?_; rintro e w5 ⟨rfl, B5⟩
      have hB6 := below_next hB5 B5
      clear hS1 B5 hB5
      go_wp2
      go_roundw
      case rel => exact ⟨k + 1, by omega, by go_num, hB6⟩
      case measure => simp [intOf]; omega
    · obtain rfl : k = n := by omega
      go_wp2
      go_ret
      exact ⟨rfl, hB⟩
set_option maxRecDepth 100000 in
set_option maxHeartbeats 1600000 in
theorem likeO_c (r : Race) (A : Option Addr) (n c : Nat) (l : List Int) (t : Int) (w : World) (h : RI 3 w A n l) (h0 : wholeErr r l = 0) (ht0 : 1 ≤ t) (ht1 : t ≤ 360000) (hR : risingF (likeL l t) 0 = true) :
    Calls Tryd.prog 7 #[r.val, .slice A n c, .int .i64 t] w fun e w' => ∃ A' c', e = .returned (.tuple #[.slice A' n c', .int .i64 0]) ∧ w'.ownsRow w.heap.size 3 1 (.slice A' n c') n (ints (likeL l t)) ∧ n ≤ 240 ∧ Below w.heap.size w w' := by
  have Hs := fun W h => checkWhole_c r A n c l W h
  rw [h0] at Hs
  obtain ⟨hc, _, _, hs, _⟩ := wholeErr_ok h0
  obtain ⟨hn1, hn, hbd⟩ := splits_bd hc
  have hlb := last_bd hn1 hbd (splitsErr_ok hs).2.2
  rw [h.len] at hn hn1
  have hla := last_at h.len (by omega)
  have hM : likeL l t = likeF (l.getLastD 0) t l := rfl
  generalize l.getLastD 0 = y at *
  have hR' := Lib.hid hR
  clear hR
  generalize likeL l t = L at *
  have hM' := Lib.hid hM
  have hlen := Lib.hid h.len
  have Hs' := Lib.hid Hs
  clear hM h0 Hs hc hs
  obtain ⟨key, metres, stroke, course, legs, sex, young, old⟩ := r
  dsimp only [Race.val, Race.cells] at *
  go_enter Tryd.func7, Tryd.ntmps7
  go_wp2_with fail
  refine (Hs'.out _ (h.alloc _)).mono ?_; rintro e w0 ⟨rfl, hb0⟩; have hB0 := below_box hb0
  go_wp2_with fail
  refine (isTime_c _ _).mono ?_; rintro e w' ⟨rfl, rfl⟩
  go_wp2
  go_loopw [9, 23] (fun out i wr => ∃ (j : Nat) (acc : List Int), j ≤ n ∧ i = .int .i64 j ∧ wr.ownsRow w.heap.size 3 1 out j (ints acc) ∧ Below w.heap.size w wr ∧ Hid (acc ++ likeF y t (l.drop j) = L)) (fun _ i _ => n - (intOf i).toNat)
  case atStart => exact ⟨0, [], Nat.zero_le _, rfl, World.ownsRow_nil _ _ _ _, hB0, Lib.hid (by rw [hM'.out]; rfl)⟩
  case round =>
    obtain ⟨j, acc, hj, rfl, hown, hB, hK⟩ := hrel
    by_cases hlt : j < n
    · have hr := h.below hB
      obtain ⟨b, off, x, rfl, _, hx, hcell⟩ := hr.at_ hlt
      obtain ⟨b', off', y', e, _, hy, hcell'⟩ := hr.at_ (k := n - 1) (by omega)
      obtain ⟨rfl, rfl⟩ : b = b' ∧ off = off' := by injection e with e; injection e with e1 e2; exact ⟨e1, e2⟩
      obtain rfl : y = y' := by rw [hla] at hy; exact Option.some.inj hy
      have hxb := hbd x (mem_of_at hx)
      have hp := mulT_bd (a := x) (b := t) hxb.1 hxb.2 (by omega) ht1
      have hq0 : 0 ≤ x * t / y := Int.ediv_nonneg hp.1 (by omega)
      have hq1 : x * t / y ≤ 129600000000 := Int.le_trans (Int.ediv_le_self _ hp.1) hp.2
      have hz := hB.size
      have hS := Lib.hid (likeF_at (last := y) (t := t) hx)
      clear hr hx e hy hla hbd h
      go_wp2_with (at_builtin; refine wpList_app rfl (.tmp 27) (.tmp 38) 22 rfl Tryd.underlying22 info_int rfl (by omega) (by omega) hown rfl rfl rfl rfl (by simp [Value.oneCell']) (by omega) hz ?_; intro v4 w4 hown4 hg4)
      have hB4 := below_own hB hown hg4 hz (Nat.le_refl _)
      go_roundw
      case rel =>
        refine ⟨j + 1, acc ++ [x * t / y], by omega, by go_num, ?_, hB4, Lib.hid ?_⟩
        · rw [ints_app]; exact hown4
        · rw [← hK.out, List.append_assoc, hS.out]; rfl
      case measure => simp [intOf]; omega
    · obtain rfl : j = n := by omega
      have hL := hK.out
      rw [drop_end (by rw [hlen.out]; omega)] at hL
      simp only [likeF, List.map_nil, List.append_nil] at hL
      subst hL
      obtain ⟨A', c', rfl⟩ := own_shape hown
      have hr := R1.of_own hown (by omega)
      have ho := Lib.hid hown
      have hn9 := Lib.hid (show j ≤ 240 by omega)
      clear hown hM' hK h hla
      have hR1 := hR'.out
      go_wp2_with fail
      refine (rising_c _ _ _ acc _ hr).mono ?_; rintro e w' ⟨rfl, rfl⟩
      rw [hR1]
      go_wp2
      go_ret2
      exact ⟨A', c', rfl, ho.out, hn9.out, hB⟩
set_option maxHeartbeats 1600000 in
set_option maxRecDepth 100000 in
/-- race.Leads of a right field: rows of its own -/
theorem leadsO_c (r : Race) (A : Option Addr) (n c : Nat) (l : List Sw) (w : World) (h : RSw w A n l) (h0 : fieldErr r l = 0) :
    Calls Tryd.prog 8 #[r.val, .slice A n c] w fun e w' => ∃ A' c' P, e = .returned (.tuple #[.slice A' (P.length) c', .int .i64 0]) ∧ SpL w w.heap.size A' c' P w' := by
  by_cases hn : n = 0
  · subst hn
    have hl : l = [] := List.eq_nil_of_length_eq_zero h.len
    have hF := Lib.hid (fun W h => checkField_c r A 0 c l W h)
    rw [h0] at hF
    clear hl
    obtain ⟨key, metres, stroke, course, legs, sex, young, old⟩ := r
    dsimp only [Race.val, Race.cells] at *
    have hb0 := heap_alloc_new w (.cells #[.string key, .int .i64 metres, .int .i64 stroke, .int .i64 course, .int .i64 legs, .int .i64 sex, .int .i64 young, .int .i64 old] 27)
    have zz := (blk_facts hb0).1
    clear h0
    go_enter Tryd.func8, Tryd.ntmps8
    go_wp2_with fail
    refine (hF.out _ (h.alloc _)).mono ?_; rintro e w1 ⟨rfl, B1⟩
    have hB1 := below_box B1
    clear hb0 zz B1
    go_wp2
    go_ret2
    exact ⟨none, 0, [], rfl, World.ownsRow_nil _ _ _ _, (fun x hx => by cases hx), by simp, hB1⟩
  · have hl : l ≠ [] := by intro e; have := h.len; rw [e] at this; simp at this; omega
    obtain ⟨hx1, hbx⟩ := field_lens h h0
    have hlb := lenV_bd (fieldErr_ok h0).1
    obtain ⟨M, hM⟩ : ∃ M : Nat, lenV r = M := ⟨(lenV r).toNat, by omega⟩
    have hlen : ∀ x ∈ l, x.sp.length = M := fun x hx => by rw [(h.2 x hx).len, hx1 x hx, hM]; rfl
    obtain ⟨hN0, hN1⟩ := first_pos h0 hM hlen
    obtain ⟨N, hN⟩ : ∃ N : Nat, firstG M l = N := ⟨(firstG M l).toNat, by omega⟩
    refine (leads0_c r A n c M l w h h0 (by omega) hM (by omega) (by omega) (fun x hx => by rw [hx1 x hx, hM]; rfl) hbx N hN (by omega)).mono ?_
    rintro e w' ⟨A', c', P, he, hS, hP⟩
    have hw := ph_who hl h0 (by omega) hP
    exact ⟨A', c', P, he, own_mono (base' := w.heap.size) hS.o hS.b0, fun x hx => ⟨_, by rw [List.length_map]; have h9 := (hS.wh x hx).1; rw [List.length_map] at h9; omega, own_mono (base' := w.heap.size) (hS.wh x hx) hS.b0, by have h9 := (hS.wh x hx).1; rw [List.length_map] at h9; have := hw x hx; omega⟩, by have := hP.len; omega, hS.bel⟩
theorem like22 (r : Race) (L : List Int) (hwh : wholeErr r L = 0) : ∃ T : Int, L[L.length - 1]? = some T ∧ (1 ≤ L.length ∧ L.length ≤ 240) ∧ ∀ A n c W, RI 3 W A n L → Calls Tryd.prog 7 #[r.val, .slice A n c, .int .i64 T] W fun e w' => ∃ A' c', e = .returned (.tuple #[.slice A' n c', .int .i64 0]) ∧ w'.ownsRow W.heap.size 3 1 (.slice A' n c') n (ints L) ∧ n ≤ 240 ∧ Below W.heap.size W w' := by
  obtain ⟨hc, _, _, hse, _⟩ := wholeErr_ok hwh
  obtain ⟨hn1, hn, hbd⟩ := splits_bd hc
  have hrise := whole_rise hwh
  have hla := (splitsErr_ok hse).2.2
  have hlast := last_at (l := L) rfl (by omega)
  have hself := likeL_self hla
  have hLb := last_bd hn1 hbd hla
  refine ⟨L.getLastD 0, hlast, ⟨by omega, by omega⟩, fun A n c W h => ?_⟩
  have h9 := likeO_c r A n c L (L.getLastD 0) W h hwh hLb.1 hLb.2 (by rw [hself]; exact hrise)
  rw [hself] at h9
  exact h9
end Go.Proofs.YtdbfcneeiiialaaDoor
