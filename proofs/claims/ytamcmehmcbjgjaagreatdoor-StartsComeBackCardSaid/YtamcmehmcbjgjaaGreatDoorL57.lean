/- StartsComeBack: starts that are written are read as they were: the walk. -/
import Derived.Test.YtamcmehmcbjgjaaGreatDoorStaS
import Derived.Test.YtamcmehmcbjgjaaGreatDoorTxtJ
import Derived.Test.YtamcmehmcbjgjaaGreatDoorSetSp
import Derived.Test.YtamcmehmcbjgjaaGreatDoorPoolM
import Derived.Test.YtamcmehmcbjgjaaGreatDoorReady
namespace Go.Proofs.YtamcmehmcbjgjaaGreatDoor
open Go.RowKit Go.Lib
set_option linter.unusedVariables false

theorem mx_of_shape {W : World} (h : W.ShapedOpen Tryz.prog) : Mx W := Tryz.laysM145.s1_3 W h
theorem back57 {p : Pl} {l : List Sp} {w w' : World} {e : Ending} (h0 : startsErr p l = 0) (h : RetRf RSp (startsErr p) stParse (stText l) w e w') : ∃ A n c, e = .returned (.tuple #[.slice A n c, .int .i64 0, .int .i64 0]) ∧ RSp w' A n l ∧ Below w.heap.size w w' := by
  obtain ⟨_, _, _, hk⟩ := starts_txt h0
  obtain ⟨k1, k2⟩ := st_read_text hk
  unfold stRd at k1
  unfold stRecs stRd at k2
  obtain ⟨B, ⟨h9, _⟩ | ⟨_, ⟨h9, _⟩ | ⟨_, A, n, c, he, hr⟩⟩⟩ := h
  · rw [k1] at h9; cases h9
  · rw [k2] at h9; exact absurd h0 h9
  · rw [k2] at hr; exact ⟨A, n, c, he, hr, B⟩
theorem any57 {p : Pl} {t : ByteArray} {w w' : World} {e : Ending} (h : RetRf RSp (startsErr p) stParse t.data.toList w e w') : Below w.heap.size w w' ∧ ((∃ i E : Int, E ≠ 0 ∧ e = .returned (.tuple #[.slice none 0 0, .int .i64 i, .int .i64 E])) ∨ ∃ A n c l, e = .returned (.tuple #[.slice A n c, .int .i64 0, .int .i64 0]) ∧ RSp w' A n l ∧ startsErr p l = 0 ∧ (⟨(stText l).toArray⟩ : ByteArray) = t) := by
  obtain ⟨B, ⟨_, he⟩ | ⟨h8, ⟨h9, he⟩ | ⟨h9, A, n, c, he, hr⟩⟩⟩ := h
  · exact ⟨B, .inl ⟨_, 9, by decide, he⟩⟩
  · exact ⟨B, .inl ⟨0, _, h9, he⟩⟩
  · exact ⟨B, .inr ⟨A, n, c, _, he, hr, h9, by
      have h7 := st_text_read (t := t.data.toList) h8
      unfold stRecs stRd at h7
      rw [h7]⟩⟩
theorem blk57 {w w' : World} {b g : Nat} {zs : Zs} {k : Nat} {t : TypeId} {cs : Array Value} (h : w.heap[b]? = some (.cells cs t (0, 0))) (hs : St w g zs k) (hg : w.grownBy w' (some g)) (hne : t ≠ 25) : w'.heap[b]? = some (.cells cs t (0, 0)) := (hs.keep hg) b cs t (0, 0) hne h
structure K57 (w : World) (X : World → Prop) (wx : World) : Prop where
  x : X wx
  kp : ∀ a b, X a → Below a.heap.size a b → X b
  bel : Below w.heap.size w wx
theorem K57.below {w wx w' : World} {X : World → Prop} (h : K57 w X wx) (B : Below wx.heap.size wx w') : K57 w X w' := ⟨h.kp _ _ h.x B, h.kp, below_next h.bel B⟩
set_option maxHeartbeats 12800000 in
set_option maxRecDepth 100000 in
theorem startsComeBack_walk (a0 : Option Addr) (len0 cap0 : Nat) (z0 : List Int) (w : World) (w0 : IsRow .i64 w a0 len0 cap0 z0) (hmx : Mx w) (htab : Tb w) (hex : Ex w) :
    Calls Tryz.prog 7 #[.slice a0 len0 cap0] w fun e w' => e = .returned (.bool true) ∧ Below w.heap.size w w' := by
  have hs := law_start w0
  clear w0
  generalize Zs.mk (z0.take len0) w.heap.size = zs at *
  have hB1 := below_new w (.cells #[.slice a0 len0 cap0, .int .i64 0] 25)
  go_enter Tryz.func7, Tryz.ntmps7
  go_wp2_with fail
  refine (poolOf_c w.heap.size zs 0 _ hs (by omega)).mono ?_; rintro e w2 ⟨lo, hi, le, ci, k2, rfl, p0, p1, p2, p3, s2, hk2, g2⟩
  have hB2 := hB1.trans (grown_below g2 (Nat.le_refl _) hB1.size)
  have hbd : PlBd ⟨lo, hi, le, ci⟩ := ⟨p0, p1⟩
  have hp2 : PoolB w2.heap.size ⟨lo, hi, le, ci⟩ (w2.alloc (.cells #[.int .i64 lo, .int .i64 hi, .int .i64 le, .int .i64 ci] 66)) := heap_alloc_new w2 _
  have s3 := s2.alloc (.cells #[.int .i64 lo, .int .i64 hi, .int .i64 le, .int .i64 ci] 66)
  have hB3 := hB2.alloc hB2.size (.cells #[.int .i64 lo, .int .i64 hi, .int .i64 le, .int .i64 ci] 66)
  obtain ⟨z0', z1, z2, z3⟩ := hp2.at_
  clear hs hB1 g2 hB2 s2 p0 p1 p2 p3
  try dsimp only at z0' z1 z2 z3
  go_wp2_with fail
  generalize hw3 : w2.alloc (.cells #[.int .i64 lo, .int .i64 hi, .int .i64 le, .int .i64 ci] 66) = w3 at *
  generalize w2.heap.size = b4 at *
  clear hw3
  have hSS := Lib.hid (fun k (W : World) (h : St W w.heap.size zs k) (hk : k + 30000 ≤ 1099511627776) (hb : Below w.heap.size w W) => startString_c ⟨lo, hi, le, ci⟩ hbd w.heap.size zs k W w h hk htab hb (Nat.le_refl _))
  have hTx := Lib.hid (fun A n c l (W : World) h hT h0 => startText_c ⟨lo, hi, le, ci⟩ hbd A n c l W h hT (by have := (starts_txt h0).2.1; omega) (starts_txt h0).2.2.1 h0)
  have hRd := Lib.hid (fun (h0 : poolErr ⟨lo, hi, le, ci⟩ = 0) s W hs hM => readSt_c ⟨lo, hi, le, ci⟩ s W h0 hbd hs hM)
  have hPF := Lib.hid (fun W => poolFault_c ⟨lo, hi, le, ci⟩ hbd W)
  have hSF := Lib.hid (fun (h0 : poolErr ⟨lo, hi, le, ci⟩ = 0) A n c l W h => startsFault_c ⟨lo, hi, le, ci⟩ h0 A n c l W h)
  have hBk := Lib.hid (fun l w w' e h0 h => back57 (p := ⟨lo, hi, le, ci⟩) (l := l) (w := w) (w' := w') (e := e) h0 h)
  have hAy := Lib.hid (fun t w w' e h => any57 (p := ⟨lo, hi, le, ci⟩) (t := t) (w := w) (w' := w') (e := e) h)
  have hLn := Lib.hid (fun l (h0 : startsErr ⟨lo, hi, le, ci⟩ l = 0) => show (⟨(stText l).toArray⟩ : ByteArray).size ≤ 200000 by show (stText l).toArray.size ≤ _; rw [List.size_toArray]; have := (starts_txt h0).2.1; omega)
  refine (startListB_c ⟨lo, hi, le, ci⟩ hbd _ zs k2 w3 w s3 (by omega) htab hB3 (Nat.le_refl _)).mono ?_; rintro e w4 ⟨A, n, c, x, k4, rfl, ho4, hn20, _, s4, hk4, g4⟩
  have hx4 : RSp w4 A n x := RN.of_own spE_len ho4 (own_len spE_len (by decide) ho4) (by omega)
  have hb4 : PoolB b4 ⟨lo, hi, le, ci⟩ w4 := blk57 hp2 s3 g4 (by decide)
  have hB4 := hB3.trans (grown_below g4 (Nat.le_refl _) hB3.size)
  have K : K57 w (fun v => RSp v A n x ∧ PoolB b4 ⟨lo, hi, le, ci⟩ v) w4 := ⟨⟨hx4, hb4⟩, fun a b q B => ⟨q.1.below B, PoolB.keep a b q.2 B⟩, hB4⟩
  have hAt := Lib.hid (fun v (h : PoolB b4 ⟨lo, hi, le, ci⟩ v) => h.at_)
  have hPk := Lib.hid (fun a v (h : PoolB b4 ⟨lo, hi, le, ci⟩ a) (B : Below a.heap.size a v) => PoolB.keep a v h B)
  have hPs := Lib.hid (fun (v v' : World) (k : Nat) (h : PoolB b4 ⟨lo, hi, le, ci⟩ v) (hs : St v w.heap.size zs k) (hg : v.grownBy v' (some w.heap.size)) => show PoolB b4 ⟨lo, hi, le, ci⟩ v' from blk57 h hs hg (by decide))
  generalize startsErr ⟨lo, hi, le, ci⟩ = SE at *
  generalize poolErr ⟨lo, hi, le, ci⟩ = PE at *
  dsimp only [Pl.val] at hSS hTx hRd hPF hSF
  generalize PoolB b4 ⟨lo, hi, le, ci⟩ = PB at *
  clear z0' z1 z2 z3 s3 hB3 g4 ho4 hx4 hb4 hB4 hp2
  obtain ⟨z0', z1, z2, z3⟩ := hAt.out _ K.x.2
  try dsimp only at z0' z1 z2 z3
  by_cases hpe : PE = 0
  rotate_left
  · have e1 : (PE != 0) = true := by simpa using hpe
    clear hpe hSS hTx hRd hSF hBk hAy hLn hAt
    go_wp2_with fail
    refine (hPF.out _).mono ?_; rintro e w5 ⟨rfl, B5⟩
    have hB5 := below_next K.bel B5
    go_wp2_with fail
    refine (ready_c _).mono ?_; rintro e wM ⟨rfl, BM⟩
    have hB := below_next hB5 BM
    go_wp2
    go_ret
    exact ⟨rfl, hB⟩
  have hSF0 := Lib.hid (fun A n c l W h => hSF.out hpe A n c l W h)
  have hRd0 := Lib.hid (fun s W hs hM => hRd.out hpe s W hs hM)
  subst hpe
  clear hSF hRd
  go_wp2_with fail
  refine (hPF.out _).mono ?_; rintro e w5 ⟨rfl, B5⟩
  have s5 := s4.below B5
  replace K := K.below B5
  clear z0' z1 z2 z3 s4 B5 hPF
  obtain ⟨z0', z1, z2, z3⟩ := hAt.out _ K.x.2
  try dsimp only at z0' z1 z2 z3
  go_wp2_with fail
  refine (hSF0.out _ _ c _ _ K.x.1).mono ?_; rintro e w6 ⟨rfl, B6⟩
  have s6 := s5.below B6
  replace K := K.below B6
  clear z0' z1 z2 z3 s5 B6 hSF0
  by_cases hse : SE x = 0
  rotate_left
  · have e1 : (SE x != 0) = true := by simpa using hse
    clear hse hSS hTx hRd0 hBk hAy hLn hAt
    go_wp2_with fail
    refine (ready_c _).mono ?_; rintro e wM ⟨rfl, BM⟩
    have hB := below_next K.bel BM
    go_wp2
    go_ret
    exact ⟨rfl, hB⟩
  have hTx1 := Lib.hid (fun W h hT => hTx.out A n c x W h hT hse)
  have hRd1 := Lib.hid (fun W hM => hRd0.out ⟨(stText x).toArray⟩ W (hLn.out x hse) hM)
  rw [show (⟨(stText x).toArray⟩ : ByteArray).data.toList = stText x by simp] at hRd1
  have hBk1 := Lib.hid (fun w w' e h => hBk.out x w w' e hse h)
  have e1 : (SE x != 0) = false := by simpa using hse
  generalize stText x = TX at *
  clear hse hBk
  obtain ⟨z0', z1, z2, z3⟩ := hAt.out _ K.x.2
  try dsimp only at z0' z1 z2 z3
  go_wp2_with fail
  refine (hTx1.out _ K.x.1 (htab.below K.bel)).mono ?_; rintro e w7 ⟨rfl, B7⟩
  have s7 := s6.below B7
  replace K := K.below B7
  clear z0' z1 z2 z3 s6 B7 hTx1 e1
  obtain ⟨z0', z1, z2, z3⟩ := hAt.out _ K.x.2
  try dsimp only at z0' z1 z2 z3
  go_wp2_with fail
  refine (hRd1.out _ (hmx.below K.bel)).mono ?_; rintro e w8 hrd
  obtain ⟨A8, n8, c8, rfl, rs8, B8⟩ := hBk1.out _ _ _ hrd
  have s8 := s7.below B8
  replace K := K.below B8
  have hEq := Lib.hid (equalSp_c A A8 n c n8 c8 x x w8 K.x.1 rs8)
  rw [decide_eq_true (rfl : x = x)] at hEq
  clear z0' z1 z2 z3 s7 B8 hRd1 hBk1 hrd rs8
  go_wp2_with fail
  refine hEq.out.mono ?_; rintro e w9 ⟨rfl, q9, rfl⟩
  have B9 := below_drewN (Below.refl w8.heap.size w8) q9
  have s9 := s8.below B9
  replace K := K.below B9
  generalize w8.drewN q9 = w9 at *
  clear s8 B9 hEq
  obtain ⟨z0', z1, z2, z3⟩ := hAt.out _ K.x.2
  try dsimp only at z0' z1 z2 z3
  have hSS9 := Lib.hid (hSS.out k4 w9 s9 (by omega) K.bel)
  unfold RetSt at hSS9
  go_wp2_with fail
  refine hSS9.out.mono ?_; rintro e w10 ⟨t, k10, rfl, ht, s10, _, g10⟩
  have hb10 := hPs.out _ _ _ K.x.2 s9 g10
  have hB10 := K.bel.trans (grown_below g10 (Nat.le_refl _) K.bel.size)
  have hRd10 := Lib.hid (hRd0.out t w10 (by omega) (hmx.below hB10))
  clear z0' z1 z2 z3 s9 g10 hSS hSS9 hRd0 s10 hPs
  obtain ⟨z0', z1, z2, z3⟩ := hAt.out _ hb10
  try dsimp only at z0' z1 z2 z3
  go_wp2_with fail
  refine hRd10.out.mono ?_; rintro e w11 hrd
  obtain ⟨B11, ⟨i9, E9, hE9, rfl⟩ | ⟨A9, n9, c9, l9, rfl, rs9, hf9, ht9⟩⟩ := hAy.out t _ _ _ hrd
  · have e1 : (E9 == 0) = false := beq_eq_false_iff_ne.2 hE9
    have hB11 := below_next hB10 B11
    clear z0' z1 z2 z3 hRd10 hrd B11 hb10 hB10
    go_wp2_with fail
    refine (ready_c _).mono ?_; rintro e wM ⟨rfl, BM⟩
    have hB := below_next hB11 BM
    go_wp2
    go_ret
    exact ⟨rfl, hB⟩
  · have hB11 := below_next hB10 B11
    have hb11 := hPk.out _ _ hb10 B11
    have hTx9 := Lib.hid (hTx.out A9 n9 c9 l9 w11 rs9 (htab.below hB11) hf9)
    rw [ht9] at hTx9
    have b1 : (t.toList == t.toList) = true := beq_self_eq_true _
    clear z0' z1 z2 z3 hRd10 hrd B11 hb10 hB10 hf9 ht9 rs9
    obtain ⟨z0', z1, z2, z3⟩ := hAt.out _ hb11
    try dsimp only at z0' z1 z2 z3
    go_wp2_with fail
    refine hTx9.out.mono ?_; rintro e w12 ⟨rfl, B12⟩
    have hB12 := below_next hB11 B12
    clear z0' z1 z2 z3 hTx9 hb11 hB11 B12
    go_wp2_with fail
    refine (ready_c _).mono ?_; rintro e wM ⟨rfl, BM⟩
    have hB := below_next hB12 BM
    go_wp2
    go_ret
    exact ⟨rfl, hB⟩
end Go.Proofs.YtamcmehmcbjgjaaGreatDoor
