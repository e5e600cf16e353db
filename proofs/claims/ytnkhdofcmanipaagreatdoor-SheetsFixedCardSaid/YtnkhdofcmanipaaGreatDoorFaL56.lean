/- SheetsFixed: CheckFixes, MergeFixes, Fixed, Text and Read are as specified for all fixes, sheets, signals and strings: the walk. -/
import Derived.Test.YtnkhdofcmanipaaGreatDoorFaSwumR
import Derived.Test.YtnkhdofcmanipaaGreatDoorFaFxC
import Derived.Test.YtnkhdofcmanipaaGreatDoorFaFxMh
import Derived.Test.YtnkhdofcmanipaaGreatDoorFaShtF
import Derived.Test.YtnkhdofcmanipaaGreatDoorFaFixO
import Derived.Test.YtnkhdofcmanipaaGreatDoorFaTxtMA
import Derived.Test.YtnkhdofcmanipaaGreatDoorFaSgS
import Derived.Test.YtnkhdofcmanipaaGreatDoorFaSgCl
import Derived.Test.YtnkhdofcmanipaaGreatDoorFaSetG
import Derived.Test.YtnkhdofcmanipaaGreatDoorFaReady4
import Derived.Deep.DeepCutAuto
namespace Go.Proofs.YtnkhdofcmanipaaGreatDoor
open Go.RowKit Go.Lib
set_option linter.unusedVariables false

theorem mx_of_shape {W : World} (h : W.ShapedOpen Tryz.prog) : Mx W := Tryz.laysM145.s1_3 W h
theorem padded56_c (w : World) : Calls Tryz.prog 42 #[] w fun e w' => e = .returned (.bool true) ∧ Below w.heap.size w w' := by
  have h0 := heap_alloc_new w (.cells #[.string ⟨#[97]⟩, .int .i64 10, .int .i64 5] 152)
  have hB0 := below_new w (.cells #[.string ⟨#[97]⟩, .int .i64 10, .int .i64 5] 152)
  go_enter Tryz.func42, Tryz.ntmps42
  go_wp2_with fail
  refine (right_c _ _ h0).mono ?_; rintro e w1 ⟨rfl, B1⟩
  go_wp2
  go_ret
  exact ⟨rfl, below_next hB0 B1⟩
structure K56 (w : World) (X : World → Prop) (wx : World) : Prop where
  x : X wx
  kp : ∀ a b, X a → Below a.heap.size a b → X b
  bel : Below w.heap.size w wx
section
variable {w wx w' : World} {X Y : World → Prop}
theorem K56.below (h : K56 w X wx) (B : Below wx.heap.size wx w') : K56 w X w' := ⟨h.kp _ _ h.x B, h.kp, below_next h.bel B⟩
theorem K56.add (h : K56 w X wx) (hy : Y wx) (hk : ∀ a b, Y a → Below a.heap.size a b → Y b) : K56 w (fun v => X v ∧ Y v) wx := ⟨⟨h.x, hy⟩, fun a b q B => ⟨h.kp a b q.1 B, hk a b q.2 B⟩, h.bel⟩
theorem K56.to (h : K56 w X wx) (hy : Y wx) (hk : ∀ a b, Y a → Below a.heap.size a b → Y b) : K56 w Y wx := ⟨hy, hk, h.bel⟩
theorem K56.drewN (h : K56 w X wx) (n : Nat) : K56 w X (wx.drewN n) := h.below (below_drewN (Below.refl _ _) n)
end
/-- the law's two sheets -/
def sht56 (zl : Nat) (pv : Int) : List Shc := [⟨1, some ⟨zl, 0, none⟩, 2, 2, [⟨2, 3000, false⟩, ⟨4, 6100, true⟩], 6100, 1⟩, ⟨pv, none, 0, 0, [], 0, 4⟩]
theorem lap56 {w : World} {z : Nat} (h : w.heap[z]? = some (.cells #[.int .i64 2, .int .i64 3000, .bool false, .int .i64 4, .int .i64 6100, .bool true] 57 (0, 0))) : RLp w (some ⟨z, 0, none⟩) 2 [⟨2, 3000, false⟩, ⟨4, 6100, true⟩] := by
  refine ⟨rfl, by omega, fun _ => ⟨z, 0, _, _, rfl, h, fun k x hx i u hu => ?_⟩⟩
  match k, hx with
  | 0, hx =>
    cases hx
    match i, hu with
    | 0, hu => exact hu
    | 1, hu => exact hu
    | 2, hu => exact hu
  | 1, hx =>
    cases hx
    match i, hu with
    | 0, hu => exact hu
    | 1, hu => exact hu
    | 2, hu => exact hu
theorem shts56 {w : World} {z z2 : Nat} {pv : Int} (h : RLp w (some ⟨z, 0, none⟩) 2 [⟨2, 3000, false⟩, ⟨4, 6100, true⟩]) (h2 : w.heap[z2]? = some (.cells #[.int .i64 1, .slice (some ⟨z, 0, none⟩) 2 2, .int .i64 6100, .int .i64 1, .int .i64 pv, .slice none 0 0, .int .i64 0, .int .i64 4] 62 (0, 0))) : RSh w (some ⟨z2, 0, none⟩) 2 (sht56 z pv) := by
  refine ⟨⟨rfl, by omega, fun _ => ⟨z2, 0, _, _, rfl, h2, fun k x hx i u hu => ?_⟩⟩, fun x hx => ?_⟩
  · match k, hx with
    | 0, hx =>
      cases hx
      match i, hu with
      | 0, hu => exact hu
      | 1, hu => exact hu
      | 2, hu => exact hu
      | 3, hu => exact hu
    | 1, hx =>
      cases hx
      match i, hu with
      | 0, hu => exact hu
      | 1, hu => exact hu
      | 2, hu => exact hu
      | 3, hu => exact hu
  · rcases List.mem_cons.1 hx with rfl | hx
    · exact h
    · rw [List.mem_singleton.1 hx]; exact RN.nil_ _ _ _ _ _
/-- the error that the law expects is the error of Fixed -/
theorem fixd_or (r : Race) (f : List Fx) (heat : Int) (S : List Shd) : orV [raceErr r, fxErr f, spanErr heat 1 60, sheetsV S] = fixdErr r f heat S := by
  unfold fixdErr sheetsV spanErr
  simp only [orV]
  generalize raceErr r = R
  generalize fxErr f = F
  generalize shtErr none S = T
  by_cases h3 : 1 ≤ heat ∧ heat ≤ 60
  · rw [if_pos h3, if_neg (not_not_intro h3)]
    by_cases h1 : R = 0 <;> by_cases h2 : F = 0 <;> by_cases h4 : 10 < S.length <;> by_cases h5 : T = 0 <;> simp [h1, h2, h4, h5]
  · rw [if_neg h3, if_pos h3]
    by_cases h1 : R = 0 <;> by_cases h2 : F = 0 <;> simp [h1, h2]
theorem fx_le {l : List Fx} (h : fxErr l = 0) : ∀ x ∈ l, 0 ≤ x.le := fun x hx => by
  have h1 := ((fxErr_iff l).1 h).2.1 x hx
  unfold fx1 at h1
  split at h1
  · cases h1
  · split at h1
    · rename_i h2
      exact h2.2.2.1.1
    · cases h1
theorem made56 {w : World} {B : Nat} {A : Option Addr} {n c : Nat} {S : List Shc} (ho : w.ownsRow B 62 4 (.slice A n c) n (S.flatMap shE)) (hl : ∀ x ∈ S, w.ownsRow B 57 3 (.slice x.A x.n x.c) x.n (x.laps.flatMap lpE)) (hb : n ≤ 300) (hx : ∀ x ∈ S, x.laps.length ≤ 300) : RSh w A n S := by
  have h1 : ∀ x ∈ S, x.laps.length = x.n := fun x h => own_len lpE_len (by decide) (hl x h)
  exact ⟨RN.of_own shE_len ho (own_len shE_len (by decide) ho) (by omega), fun x h => by
    have h2 := h1 x h
    have h3 := hx x h
    exact RN.of_own lpE_len (hl x h) h2 (by omega)⟩
theorem fixdL_laps (r : Race) (f : List Fx) (heat : Int) (z : Nat) (pv : Int) : ∀ s ∈ fixdL r f heat ((sht56 z pv).map Shc.dat), s.laps.length ≤ 300 := by
  have hp : ∀ (l : List Fx) (s : Shd), (putsV l s).laps.length = s.laps.length := fun l => by
    induction l with
    | nil => intro s; rfl
    | cons x r ih => intro s; rw [putsV_cons, ih, putV_len]
  intro s hs
  unfold fixdL sht56 at hs
  rw [List.mem_map] at hs
  obtain ⟨s0, h0, rfl⟩ := hs
  rw [hp]
  rcases List.mem_cons.1 h0 with rfl | h0
  · show 2 ≤ 300; omega
  · rw [List.mem_singleton.1 h0]; show 0 ≤ 300; omega
set_option maxHeartbeats 12800000 in
set_option maxRecDepth 100000 in
theorem sheetsFixed_walk (a0 : Option Addr) (len0 cap0 : Nat) (z0 : List Int) (w : World) (w0 : IsRow .i64 w a0 len0 cap0 z0) (hmx : Mx w) (htab : Tb w) (hex : Ex w) :
    Calls Tryz.prog 4 #[.slice a0 len0 cap0] w fun e w' => e = .returned (.bool true) ∧ Below w.heap.size w w' := by
  have hs := law_start w0
  clear w0
  generalize Zs.mk (z0.take len0) w.heap.size = zs at *
  have hB0 := below_new w (.cells #[.slice a0 len0 cap0, .int .i64 0] 25)
  have hs' : St (w.alloc (.cells #[.slice a0 len0 cap0, .int .i64 0] 25)) w.heap.size zs 0 := hs
  go_enter Tryz.func4, Tryz.ntmps4
  go_wp2_with fail
  have hk1 := swumRace_k zs 0
  refine (swumRace_c w.heap.size zs 0 _ hs' (by omega)).mono ?_; rintro e w1 ⟨rfl, s1, g1⟩
  generalize (swumRace zs 0).2 = k1 at *
  generalize (swumRace zs 0).1 = r at *
  have hB1 := hB0.trans (grown_below g1 (Nat.le_refl _) hB0.size)
  clear hs hs' g1 hB0
  go_wp2_with fail
  refine (fixes_c w.heap.size zs _ _ s1 (by omega)).mono ?_; rintro e w2 ⟨A, n, c, a, k2, rfl, ra, hn, s2, hk2, g2⟩
  have hB2 := hB1.trans (grown_below g2 (Nat.le_refl _) hB1.size)
  clear s1 g2 hB1
  go_wp2_with fail
  refine (fixes_c w.heap.size zs _ _ s2 (by omega)).mono ?_; rintro e w3 ⟨B, m, d, b, k3, rfl, rb, hm, s3, hk3, g3⟩
  have hB3 := hB2.trans (grown_below g3 (Nat.le_refl _) hB2.size)
  have ra3 : RFx w3 A n a := ra.keep (T := 25) (by decide) (s2.keep g3)
  have ra4 := ra3.alloc (.cells #[.int .i64 1, .int .i64 1, .int .i64 2, .int .i64 0] 3)
  have rb4 := rb.alloc (.cells #[.int .i64 1, .int .i64 1, .int .i64 2, .int .i64 0] 3)
  have s3' := s3.alloc (.cells #[.int .i64 1, .int .i64 1, .int .i64 2, .int .i64 0] 3)
  have hB3' := hB3.alloc hB3.size (.cells #[.int .i64 1, .int .i64 1, .int .i64 2, .int .i64 0] 3)
  clear s2 g3 ra ra3 rb hB2 hB3
  go_wp2_with fail
  refine (pickE_c _ zs k3 _ _ _ [1, 1, 2, 0] _ s3' (by omega) (R1.litAt _ _ _ _ (by first | rfl | (simp; done)) (by simp) (by simp)) (by simp)).mono ?_; rintro e w4 ⟨heat, rfl, _, s4, g4⟩
  have ra5 : RFx w4 A n a := ra4.keep (T := 25) (by decide) (s3'.keep g4)
  have rb5 : RFx w4 B m b := rb4.keep (T := 25) (by decide) (s3'.keep g4)
  have hB4 := hB3'.trans (grown_below g4 (Nat.le_refl _) hB3'.size)
  clear s3 s3' g4 ra4 rb4 hB3'
  obtain ⟨key, metres, stroke, course, legs, sex, young, old⟩ := r
  dsimp only [Race.val, Race.cells] at *
  go_wp2_with fail
  have hr0 := heap_alloc_new w4 (.cells #[.string key, .int .i64 metres, .int .i64 stroke, .int .i64 course, .int .i64 legs, .int .i64 sex, .int .i64 young, .int .i64 old] 51)
  have hl0 := heap_alloc_new (w4.alloc (.cells #[.string key, .int .i64 metres, .int .i64 stroke, .int .i64 course, .int .i64 legs, .int .i64 sex, .int .i64 young, .int .i64 old] 51)) (.cells #[.int .i64 2, .int .i64 3000, .bool false, .int .i64 4, .int .i64 6100, .bool true] 57)
  rw [show (w4.alloc (.cells #[.string key, .int .i64 metres, .int .i64 stroke, .int .i64 course, .int .i64 legs, .int .i64 sex, .int .i64 young, .int .i64 old] 51)).heap.size = w4.heap.size + 1 by simp] at hl0
  have hr1 := blk_alloc (blk_alloc hr0 (.cells #[.int .i64 2, .int .i64 3000, .bool false, .int .i64 4, .int .i64 6100, .bool true] 57)) (.cells #[.int .i64 2, .int .i64 2, .int .i64 3, .int .i64 1, .int .i64 11] 3)
  have hl1 := blk_alloc hl0 (.cells #[.int .i64 2, .int .i64 2, .int .i64 3, .int .i64 1, .int .i64 11] 3)
  have s5 := ((s4.alloc (.cells #[.string key, .int .i64 metres, .int .i64 stroke, .int .i64 course, .int .i64 legs, .int .i64 sex, .int .i64 young, .int .i64 old] 51)).alloc (.cells #[.int .i64 2, .int .i64 3000, .bool false, .int .i64 4, .int .i64 6100, .bool true] 57)).alloc (.cells #[.int .i64 2, .int .i64 2, .int .i64 3, .int .i64 1, .int .i64 11] 3)
  have ra6 := ((ra5.alloc (.cells #[.string key, .int .i64 metres, .int .i64 stroke, .int .i64 course, .int .i64 legs, .int .i64 sex, .int .i64 young, .int .i64 old] 51)).alloc (.cells #[.int .i64 2, .int .i64 3000, .bool false, .int .i64 4, .int .i64 6100, .bool true] 57)).alloc (.cells #[.int .i64 2, .int .i64 2, .int .i64 3, .int .i64 1, .int .i64 11] 3)
  have rb6 := ((rb5.alloc (.cells #[.string key, .int .i64 metres, .int .i64 stroke, .int .i64 course, .int .i64 legs, .int .i64 sex, .int .i64 young, .int .i64 old] 51)).alloc (.cells #[.int .i64 2, .int .i64 3000, .bool false, .int .i64 4, .int .i64 6100, .bool true] 57)).alloc (.cells #[.int .i64 2, .int .i64 2, .int .i64 3, .int .i64 1, .int .i64 11] 3)
  have hBb := below_next (below_next (below_next hB4 (below_new w4 (.cells #[.string key, .int .i64 metres, .int .i64 stroke, .int .i64 course, .int .i64 legs, .int .i64 sex, .int .i64 young, .int .i64 old] 51))) (below_new _ (.cells #[.int .i64 2, .int .i64 3000, .bool false, .int .i64 4, .int .i64 6100, .bool true] 57))) (below_new _ (.cells #[.int .i64 2, .int .i64 2, .int .i64 3, .int .i64 1, .int .i64 11] 3))
  refine (pickE_c _ zs (k3 + 1) _ _ _ [2, 2, 3, 1, 11] _ s5 (by omega) (R1.litAt _ _ _ _ (by first | rfl | (simp; done)) (by simp) (by simp)) (by simp)).mono ?_; rintro e w5 ⟨pv, rfl, _, s6, g6⟩
  have hKp := s5.keep g6
  have hr2 := hKp _ _ _ _ (by decide) hr1
  have hl2 := hKp _ _ _ _ (by decide) hl1
  have ra7 : RFx w5 A n a := ra6.keep (T := 25) (by decide) hKp
  have rb7 : RFx w5 B m b := rb6.keep (T := 25) (by decide) hKp
  have hB5 := hBb.trans (grown_below g6 (Nat.le_refl _) hBb.size)
  clear hr0 hl0 hr1 hl1 s4 s5 ra5 ra6 rb5 rb6 hB4 hBb g6 hKp
  generalize w4.heap.size + 1 = zl at *
  generalize w4.heap.size = zr at *
  go_wp2_with fail
  have hs0 := heap_alloc_new w5 (.cells #[.int .i64 1, .slice (some ⟨zl, 0, none⟩) 2 2, .int .i64 6100, .int .i64 1, .int .i64 pv, .slice none 0 0, .int .i64 0, .int .i64 4] 62)
  have hsh := shts56 (pv := pv) (lap56 (blk_alloc hl2 (.cells #[.int .i64 1, .slice (some ⟨zl, 0, none⟩) 2 2, .int .i64 6100, .int .i64 1, .int .i64 pv, .slice none 0 0, .int .i64 0, .int .i64 4] 62))) hs0
  have K : K56 w (fun v => St v w.heap.size zs (k3 + 1 + 1) ∧ (RFx v A n a ∧ RFx v B m b) ∧ v.heap[zr]? = some (.cells #[.string key, .int .i64 metres, .int .i64 stroke, .int .i64 course, .int .i64 legs, .int .i64 sex, .int .i64 young, .int .i64 old] 51 (0, 0)) ∧ RSh v (some ⟨w5.heap.size, 0, none⟩) 2 (sht56 zl pv)) (w5.alloc (.cells #[.int .i64 1, .slice (some ⟨zl, 0, none⟩) 2 2, .int .i64 6100, .int .i64 1, .int .i64 pv, .slice none 0 0, .int .i64 0, .int .i64 4] 62)) := ⟨⟨s6.alloc _, ⟨ra7.alloc _, rb7.alloc _⟩, blk_alloc hr2 _, hsh⟩, fun a b q B => ⟨q.1.below B, ⟨q.2.1.1.below B, q.2.1.2.below B⟩, blk_below q.2.2.1 B, q.2.2.2.below B⟩, below_next hB5 (below_new w5 _)⟩
  obtain ⟨X, hX⟩ : ∃ X : World → Prop, X = (fun v => St v w.heap.size zs (k3 + 1 + 1) ∧ (RFx v A n a ∧ RFx v B m b) ∧ v.heap[zr]? = some (.cells #[.string key, .int .i64 metres, .int .i64 stroke, .int .i64 course, .int .i64 legs, .int .i64 sex, .int .i64 young, .int .i64 old] 51 (0, 0)) ∧ RSh v (some ⟨w5.heap.size, 0, none⟩) 2 (sht56 zl pv)) := ⟨_, rfl⟩
  rw [← hX] at K
  have hXk := Lib.hid K.kp
  have hXs := Lib.hid (fun v (h : X v) => show St v w.heap.size zs (k3 + 1 + 1) by rw [hX] at h; exact h.1)
  have hXa := Lib.hid (fun v (h : X v) => show RFx v A n a by rw [hX] at h; exact h.2.1.1)
  have hXb := Lib.hid (fun v (h : X v) => show RFx v B m b by rw [hX] at h; exact h.2.1.2)
  have hXr := Lib.hid (fun v (h : X v) => show v.heap[zr]? = some (.cells #[.string key, .int .i64 metres, .int .i64 stroke, .int .i64 course, .int .i64 legs, .int .i64 sex, .int .i64 young, .int .i64 old] 51 (0, 0)) by rw [hX] at h; exact h.2.2.1)
  have hXh := Lib.hid (fun v (h : X v) => show RSh v (some ⟨w5.heap.size, 0, none⟩) 2 (sht56 zl pv) by rw [hX] at h; exact h.2.2.2)
  have hal := Lib.hid ra7.len
  have hbl := Lib.hid rb7.len
  clear hX hr2 hl2 s6 ra7 rb7 hB5 hs0 hsh
  generalize w5.heap.size = zs2 at *
  have hFa := Lib.hid (fun W h => fixesFault_c A n c a W h)
  have hFb := Lib.hid (fun W h => fixesFault_c B m d b W h)
  have hCa := Lib.hid (fun W h => checkFixes_c A n c a W h)
  have hMx := Lib.hid (fun W h g => mergeX_c A B n c m d a b W h g (by omega) (by omega))
  have hOr := Lib.hid (fun E o h => mgxT_or a b (E := E) (o := o) h)
  have hFM := Lib.hid (fun (h0 : fxErr a = 0) W h g => fixesMerged_c A B n c m d a b W h g (by omega) (by omega) (Lib.hid ((fxErr_iff a).1 h0).2.2))
  have hDet := Lib.hid (fun (ha : fxErr a = 0) (hb : fxErr b = 0) E E' o o' h h' => mgxT_det (a := a) (b := b) (E := E) (E' := E') (o := o) (o' := o') ha hb h h')
  have hFx := Lib.hid (fun W h g => fixed_c ⟨key, metres, stroke, course, legs, sex, young, old⟩ A n c a heat (some ⟨zs2, 0, none⟩) 2 2 (sht56 zl pv) W h g (fun x hx => by
    rcases List.mem_cons.1 hx with rfl | hx
    · show 2 ≤ 1000; omega
    · rw [List.mem_singleton.1 hx]; show 0 ≤ 1000; omega))
  have hFO := Lib.hid (fun (h0 : fxErr a = 0) W h g => fixedOf_c ⟨key, metres, stroke, course, legs, sex, young, old⟩ A n c a heat (some ⟨zs2, 0, none⟩) 2 2 (sht56 zl pv) W h g (fun x hx => by
    rcases List.mem_cons.1 hx with rfl | hx
    · show 2 ≤ 1000; omega
    · rw [List.mem_singleton.1 hx]; show 0 ≤ 1000; omega) (by omega) (by omega) (by omega) (fx_le h0))
  have hE5 := Lib.hid (fixd_or ⟨key, metres, stroke, course, legs, sex, young, old⟩ a heat ((sht56 zl pv).map Shc.dat))
  have hE0 := Lib.hid (fun (h : fixdErr ⟨key, metres, stroke, course, legs, sex, young, old⟩ a heat ((sht56 zl pv).map Shc.dat) = 0) => show fxErr a = 0 by
    unfold fixdErr at h
    by_cases h1 : raceErr ⟨key, metres, stroke, course, legs, sex, young, old⟩ = 0
    · rw [if_neg (by simp [h1])] at h
      by_cases h2 : fxErr a = 0
      · exact h2
      · rw [if_pos h2] at h; exact absurd h h2
    · rw [if_pos h1] at h; exact absurd h h1)
  have hLp := Lib.hid (fixdL_laps ⟨key, metres, stroke, course, legs, sex, young, old⟩ a heat zl pv)
  have hFL := Lib.hid (show (fixdL ⟨key, metres, stroke, course, legs, sex, young, old⟩ a heat ((sht56 zl pv).map Shc.dat)).length = 2 from rfl)
  have hRF := Lib.hid (fun W => raceFault_c ⟨key, metres, stroke, course, legs, sex, young, old⟩ W)
  have hSF := Lib.hid (fun W h => sheetsFault_c (some ⟨zs2, 0, none⟩) 2 2 (sht56 zl pv) W h)
  unfold RetFd at hFx
  dsimp only [Race.val, Race.cells] at hFx hFO hRF
  generalize fixdErr ⟨key, metres, stroke, course, legs, sex, young, old⟩ a heat ((sht56 zl pv).map Shc.dat) = FE at *
  generalize fixdL ⟨key, metres, stroke, course, legs, sex, young, old⟩ a heat ((sht56 zl pv).map Shc.dat) = FL at *
  generalize sheetsV ((sht56 zl pv).map Shc.dat) = SV at *
  generalize raceErr ⟨key, metres, stroke, course, legs, sex, young, old⟩ = RE at *
  refine (hFa.out _ (hXa.out _ K.x)).mono ?_; rintro e w6 ⟨rfl, B6⟩
  replace K := K.below B6
  clear B6
  go_wp2_with fail
  refine (hCa.out _ (hXa.out _ K.x)).mono ?_; rintro e w7 ⟨rfl, B7⟩
  replace K := K.below B7
  have hne : (fxErr a != fxErr a) = false := by simp
  clear B7 hFa hCa
  unfold RetMx at hMx
  go_wp2_with fail
  refine (hMx.out _ (hXa.out _ K.x) (hXb.out _ K.x)).mono ?_; rintro e w8 ⟨A8, n8, c8, o8, E8, rfl, ro8, hm8, _, B8⟩
  replace K := (K.below B8).add (Y := fun v => RFx v A8 n8 o8) ro8 (fun _ _ h B => h.below B)
  have hcs := hOr.out _ _ hm8
  clear B8 hMx ro8 hm8 hOr
  go_wp2_with fail
  refine (hFb.out _ (hXb.out _ K.x.1)).mono ?_; rintro e w9 ⟨rfl, B9⟩
  replace K := K.below B9
  clear B9 hFb
  generalize fxErr a = EA at *
  generalize fxErr b = EB at *
  go_wp2_with fail
  refine (orE_c _ _ _ [EA, EB] _ (R1.litAt _ _ _ [EA, EB] (by first | rfl | simp) rfl (by simp))).mono ?_; rintro e w' ⟨rfl, rfl⟩
  replace K := K.below (below_new w9 (.cells #[.int .i64 EA, .int .i64 EB] 30))
  generalize orV [EA, EB] = OE at *
  go_upto_if 65 with (fail)
  go_cut [12, 13] (fun s12 s13 wx => ∃ (A9 : Option Addr) (n9 c9 : Nat), s12 = .int .i64 E8 ∧ s13 = .slice A9 n9 c9 ∧ K56 w (fun v => (X v ∧ RFx v A8 n8 o8) ∧ RFx v A9 n9 o8) wx)
  case first => as_aux_lemma =>
    rcases hcs with ⟨h0, ha, hb, hT⟩ | ⟨h0, hE, ho⟩
    · have hd : (OE == 0) = true := by rw [h0]; rfl
      have hc := Lib.hid (hFM.out ha _ (hXa.out _ K.x.1) (hXb.out _ K.x.1))
      unfold RetMxs at hc
      have hD := Lib.hid (fun E' o' h' => hDet.out ha hb E8 E' o8 o' hT h')
      clear h0 ha hb hT hFM hDet hE0 hFO hFx hRF hSF hE5
      go_wp2_with fail
      refine hc.out.mono ?_; rintro e w10 ⟨A9, n9, c9, o9, E9, rfl, r9, hm9, B9⟩
      obtain ⟨rfl, rfl⟩ := hD.out _ _ hm9
      replace K := (K.below B9).add (Y := fun v => RFx v A9 n9 o8) r9 (fun _ _ h B => h.below B)
      clear hc hD r9 hm9 B9
      go_wp2
      go_meet
      case rel => exact ⟨A9, n9, c9, rfl, rfl, K⟩
    · have hd : (OE == 0) = false := beq_eq_false_iff_ne.2 h0
      subst ho
      obtain rfl := hE
      replace K := K.add (Y := fun v => RFx v none 0 ([] : List Fx)) (RN.nil_ _ _ _ _ _) (fun _ _ _ _ => RN.nil_ _ _ _ _ _)
      clear hFM hDet hE0 hFO hFx hRF hSF hE5 h0
      go_wp2
      go_meet
      case rel => exact ⟨none, 0, 0, rfl, rfl, K⟩
  case rest =>
  clear K hcs hFM hDet
  obtain ⟨A9, n9, c9, rfl, rfl, K⟩ := hcut
  rename World => w11
  have hEq := Lib.hid (equalFx_c A8 A9 n8 c8 n9 c9 o8 o8 w11 K.x.1.2 K.x.2)
  rw [decide_eq_true (rfl : o8 = o8)] at hEq
  have hne8 : (E8 != E8) = false := by simp
  go_wp2_with fail
  refine hEq.out.mono ?_; rintro e w12 ⟨rfl, q12, rfl⟩
  replace K := (K.drewN q12).to (Y := X) (K.drewN q12).x.1.1 hXk.out
  generalize w11.drewN q12 = w12 at *
  clear hEq
  obtain ⟨y0, y1, y2, y3, y4, y5, y6, y7⟩ : w12.cell? ⟨zr, 0, none⟩ = some (.string key) ∧ w12.cell? ⟨zr, 1, none⟩ = some (.int .i64 metres) ∧ w12.cell? ⟨zr, 2, none⟩ = some (.int .i64 stroke) ∧ w12.cell? ⟨zr, 3, none⟩ = some (.int .i64 course) ∧ w12.cell? ⟨zr, 4, none⟩ = some (.int .i64 legs) ∧ w12.cell? ⟨zr, 5, none⟩ = some (.int .i64 sex) ∧ w12.cell? ⟨zr, 6, none⟩ = some (.int .i64 young) ∧ w12.cell? ⟨zr, 7, none⟩ = some (.int .i64 old) := (fun h => ⟨(blk_facts h).1 0, (blk_facts h).1 1, (blk_facts h).1 2, (blk_facts h).1 3, (blk_facts h).1 4, (blk_facts h).1 5, (blk_facts h).1 6, (blk_facts h).1 7⟩) (hXr.out _ K.x)
  go_wp2_with fail
  refine (hFx.out _ (hXa.out _ K.x) (hXh.out _ K.x)).mono ?_; rintro e w14 ⟨A14, n14, c14, S14, rfl, hn14, hd14, ho14, hl14, B14⟩
  have hn0 := Lib.hid (fun (h : FE ≠ 0) => (hn14 h).2.1)
  have hdt := Lib.hid hd14
  have hrs : FE = 0 → RSh w14 A14 n14 S14 := fun h => by
    have hL := hd14 h
    have hnn : S14.length = n14 := own_len shE_len (by decide) ho14
    have h2 : FL.length = 2 := hFL.out
    have h3 : S14.length = 2 := by rw [← h2, ← hL, List.length_map]
    exact made56 ho14 hl14 (by omega) (fun x hx => by
      have h1 : x.dat ∈ S14.map Shc.dat := List.mem_map.2 ⟨x, hx, rfl⟩
      rw [hL] at h1
      exact hLp.out _ h1)
  replace K := (K.below B14).add (Y := fun v => FE = 0 → RSh v A14 n14 S14) hrs (fun _ _ h B h0 => (h h0).below B)
  clear hFx hrs hn14 hd14 ho14 hl14 B14 y0 y1 y2 y3 y4 y5 y6 y7
  obtain ⟨y0, y1, y2, y3, y4, y5, y6, y7⟩ : w14.cell? ⟨zr, 0, none⟩ = some (.string key) ∧ w14.cell? ⟨zr, 1, none⟩ = some (.int .i64 metres) ∧ w14.cell? ⟨zr, 2, none⟩ = some (.int .i64 stroke) ∧ w14.cell? ⟨zr, 3, none⟩ = some (.int .i64 course) ∧ w14.cell? ⟨zr, 4, none⟩ = some (.int .i64 legs) ∧ w14.cell? ⟨zr, 5, none⟩ = some (.int .i64 sex) ∧ w14.cell? ⟨zr, 6, none⟩ = some (.int .i64 young) ∧ w14.cell? ⟨zr, 7, none⟩ = some (.int .i64 old) := (fun h => ⟨(blk_facts h).1 0, (blk_facts h).1 1, (blk_facts h).1 2, (blk_facts h).1 3, (blk_facts h).1 4, (blk_facts h).1 5, (blk_facts h).1 6, (blk_facts h).1 7⟩) (hXr.out _ K.x.1)
  go_wp2_with fail
  refine (hRF.out _).mono ?_; rintro e w15 ⟨rfl, B15⟩
  replace K := K.below B15
  clear hRF B15 y0 y1 y2 y3 y4 y5 y6 y7
  go_wp2_with fail
  refine (spanFault_c _ _ _ _).mono ?_; rintro e wq ⟨rfl, rfl⟩
  go_wp2_with fail
  refine (hSF.out _ (hXh.out _ K.x.1)).mono ?_; rintro e w16 ⟨rfl, B16⟩
  replace K := K.below B16
  clear hSF B16
  go_wp2_with fail
  refine (orE_c _ _ _ [RE, EA, spanErr heat 1 60, SV] _ (R1.litAt _ _ _ [RE, EA, spanErr heat 1 60, SV] (by first | rfl | simp) rfl (by simp))).mono ?_; rintro e w' ⟨rfl, rfl⟩
  rw [hE5.out]
  replace K := K.below (below_new w16 (.cells #[.int .i64 RE, .int .i64 EA, .int .i64 (spanErr heat 1 60), .int .i64 SV] 30))
  clear hE5
  generalize spanErr heat 1 60 = SPE at *
  go_upto_region 16 with fail
  go_cut [123] (fun s123 wx => s123 = .bool false ∧ K56 w X wx)
  case first => as_aux_lemma =>
    have b0 : (FE != FE) = false := by simp
    by_cases h0 : FE = 0
    · have b1 : (FE == 0) = true := by simpa using h0
      have b2 : (FE != 0) = false := by simpa using h0
      have hc := Lib.hid (hFO.out (hE0.out h0) _ (hXa.out _ K.x.1) (hXh.out _ K.x.1))
      have hd9 := Lib.hid (hdt.out h0)
      have h0' := Lib.hid h0
      obtain ⟨y0, y1, y2, y3, y4, y5, y6, y7⟩ : (w16.alloc (.cells #[.int .i64 RE, .int .i64 EA, .int .i64 SPE, .int .i64 SV] 30)).cell? ⟨zr, 0, none⟩ = some (.string key) ∧ (w16.alloc (.cells #[.int .i64 RE, .int .i64 EA, .int .i64 SPE, .int .i64 SV] 30)).cell? ⟨zr, 1, none⟩ = some (.int .i64 metres) ∧ (w16.alloc (.cells #[.int .i64 RE, .int .i64 EA, .int .i64 SPE, .int .i64 SV] 30)).cell? ⟨zr, 2, none⟩ = some (.int .i64 stroke) ∧ (w16.alloc (.cells #[.int .i64 RE, .int .i64 EA, .int .i64 SPE, .int .i64 SV] 30)).cell? ⟨zr, 3, none⟩ = some (.int .i64 course) ∧ (w16.alloc (.cells #[.int .i64 RE, .int .i64 EA, .int .i64 SPE, .int .i64 SV] 30)).cell? ⟨zr, 4, none⟩ = some (.int .i64 legs) ∧ (w16.alloc (.cells #[.int .i64 RE, .int .i64 EA, .int .i64 SPE, .int .i64 SV] 30)).cell? ⟨zr, 5, none⟩ = some (.int .i64 sex) ∧ (w16.alloc (.cells #[.int .i64 RE, .int .i64 EA, .int .i64 SPE, .int .i64 SV] 30)).cell? ⟨zr, 6, none⟩ = some (.int .i64 young) ∧ (w16.alloc (.cells #[.int .i64 RE, .int .i64 EA, .int .i64 SPE, .int .i64 SV] 30)).cell? ⟨zr, 7, none⟩ = some (.int .i64 old) := (fun h => ⟨(blk_facts h).1 0, (blk_facts h).1 1, (blk_facts h).1 2, (blk_facts h).1 3, (blk_facts h).1 4, (blk_facts h).1 5, (blk_facts h).1 6, (blk_facts h).1 7⟩) (hXr.out _ K.x.1)
      clear h0 hFO hE0 hn0 hdt
      go_wp2_with fail
      refine hc.out.mono ?_; rintro e w17 ⟨A17, c17, S17, rfl, hd17, rs17, B17⟩
      replace K := K.below B17
      have hq := Lib.hid (equalSh_c A14 A17 n14 c14 2 c17 S14 S17 w17 (K.x.2 h0'.out) rs17)
      rw [show decide (S14.map Shc.dat = S17.map Shc.dat) = true from decide_eq_true (by rw [hd9.out, hd17])] at hq
      clear hc hd9 hd17 rs17 B17 y0 y1 y2 y3 y4 y5 y6 y7
      go_wp2_with fail
      refine hq.out.mono ?_; rintro e w18 ⟨rfl, B18⟩
      replace K := (K.below B18).to (Y := X) (K.below B18).x.1 hXk.out
      clear hq B18
      go_wp2
      go_meet
      case rel => exact ⟨rfl, K⟩
    · have b1 : (FE == 0) = false := by simpa using h0
      have b2 : (FE != 0) = true := by simpa using h0
      obtain rfl := hn0.out h0
      replace K := K.to (Y := X) K.x.1 hXk.out
      clear h0 hFO hE0 hn0 hdt
      go_wp2
      go_meet
      case rel => exact ⟨rfl, K⟩
  case rest =>
  clear K hE0 hFO
  obtain ⟨rfl, K⟩ := hcut
  rename World => w18
  have hSt := hXs.out _ K.x
  have hB18 := K.bel
  clear K hXk hXs hXa hXb hXr hXh hLp hFL hn0 hdt
  go_wp2_with fail
  refine (signals_c _ zs (k3 + 1 + 1) _ hSt (by omega)).mono ?_; rintro e w19 ⟨A19, n19, c19, l, k19, rfl, ho19, hl19, hn1, hn18, s19, hk19, g19⟩
  have rs19 : RSg w19 A19 n19 l := RN.of_own sgE_len ho19 hl19 (by omega)
  have hB19 := hB18.trans (grown_below g19 (Nat.le_refl _) hB18.size)
  clear hSt hB18 ho19 g19
  have hT0 := Lib.hid (fun (h0 : sigErr l = 0) => show (sgText l).length ≤ 200000 ∧ ∀ x ∈ l, SgWr x from ⟨by have := sgText_len l (sigErr_all h0); omega, fun x hx => (sg1_all (sigErr_all h0 x hx)).2.1⟩)
  have hTX := Lib.hid (sgTextA_c A19 n19 c19 l w19 rs19 (htab.below hB19) hT0.out)
  have hLi := Lib.hid (fun (h0 : sigErr l = 0) W h hT => signalLines_c A19 n19 c19 l W h hT (by have := (hT0.out h0).1; omega) (hT0.out h0).2)
  have hSF := Lib.hid (fun W h => signalsFault_c A19 n19 c19 l W h)
  have hSS := Lib.hid (fun k (W : World) (h : St W w.heap.size zs k) (hk : k + 30000 ≤ 1099511627776) (hb : Below w.heap.size w W) => signalString_c w.heap.size zs k W w h hk htab hb (Nat.le_refl _))
  have hRd := Lib.hid (fun s W hs hM => readSg_c s W hs hM)
  have hRr := Lib.hid (fun s W hs hM hT hE => readSgRef_c s W hs hM hT hE)
  have hR1 := Lib.hid (fun t W W' e h => rf_one (rows := RSg) (Er := sigErr) (parse := sgParse) (t := t) (w := W) (w' := W') (e := e) (fun v => RN.nil_ _ _ _ _ _) h)
  have hR2 := Lib.hid (fun t w1 w2 v1 v2 A n c i E e2 h1 h2 => rf_two (rows := RSg) (Er := sigErr) (parse := sgParse) (t := t) (w1 := w1) (w2 := w2) (v1 := v1) (v2 := v2) (A := A) (n := n) (c := c) (i := i) (E := E) (e2 := e2) (fun v => RN.nil_ _ _ _ _ _) h1 h2)
  obtain ⟨SE, hSE⟩ : ∃ q, sigErr l = q := ⟨_, rfl⟩
  rw [hSE] at hTX hLi hSF
  obtain ⟨TX, hTXe⟩ : ∃ q : ByteArray, (⟨(sgText l).toArray⟩ : ByteArray) = q := ⟨_, rfl⟩
  rw [hTXe] at hTX hLi
  obtain ⟨TT, hTT⟩ : ∃ q, (if SE = 0 then TX else (⟨#[]⟩ : ByteArray)) = q := ⟨_, rfl⟩
  rw [hTT] at hTX
  have hTT := Lib.hid hTT
  clear hTXe hT0 hSE
  go_wp2_with fail
  refine hTX.out.mono ?_; rintro e w20 ⟨rfl, B20⟩
  have rs20 := rs19.below B20
  have s20 := s19.below B20
  have hB20 := below_next hB19 B20
  clear hTX rs19 s19 B20 hB19
  go_wp2_with fail
  refine (hSF.out _ rs20).mono ?_; rintro e w21 ⟨rfl, B21⟩
  have rs21 := rs20.below B21
  have s21 := s20.below B21
  have hB21 := below_next hB20 B21
  clear hSF rs20 s20 B21 hB20
  go_upto_region 21 with fail
  go_cut [153] (fun s153 wx => s153 = .bool false ∧ St wx w.heap.size zs k19 ∧ Below w.heap.size w wx)
  case first => as_aux_lemma =>
    have b0 : (SE != SE) = false := by simp
    by_cases hs0 : SE = 0
    · have b1 : (SE == 0) = true := by simpa using hs0
      have b2 : (SE != 0) = false := by simpa using hs0
      have hc := Lib.hid (hLi.out hs0 w21 rs21 (htab.below hB21))
      have b3 : (TX.toList == TX.toList) = true := beq_self_eq_true _
      have b4' : (TX.toList != TX.toList) = false := by simp
      obtain rfl : TX = TT := by have h9 := hTT.out; rw [if_pos hs0] at h9; exact h9
      clear hs0 hLi hRd hRr hTT
      go_wp2_with fail
      refine hc.out.mono ?_; rintro e w22 ⟨rfl, B22⟩
      have s22 := s21.below B22
      have hB22 := below_next hB21 B22
      clear s21 B22 hc rs21 hB21
      go_wp2
      go_meet
      case rel => exact ⟨rfl, s22, hB22⟩
    · have b1 : (SE == 0) = false := by simpa using hs0
      have b2 : (SE != 0) = true := by simpa using hs0
      obtain rfl : ⟨#[]⟩ = TT := by have h9 := hTT.out; rw [if_neg hs0] at h9; exact h9
      clear hs0 hLi hRd hRr hTT rs21
      go_wp2
      go_meet
      case rel => exact ⟨rfl, s21, hB21⟩
  case rest =>
  clear s21 hLi rs21 hB21
  obtain ⟨rfl, s22, hB22⟩ := hcut
  rename World => w22
  have hSS9 := Lib.hid (hSS.out k19 w22 s22 (by omega) hB22)
  unfold RetSt at hSS9
  go_wp2_with fail
  refine hSS9.out.mono ?_; rintro e w23 ⟨t, k23, rfl, ht, s23, _, g23⟩
  have hB23 := hB22.trans (grown_below g23 (Nat.le_refl _) hB22.size)
  have hRd1 := Lib.hid (hRd.out t w23 (by omega) (hmx.below hB23))
  have hRr1 := Lib.hid (fun W (B : Below w.heap.size w W) => hRr.out t W (by omega) (hmx.below B) (htab.below B) (hex.below B))
  clear s22 g23 hSS hSS9 s23 hRd hRr hB22
  go_wp2_with fail
  refine hRd1.out.mono ?_; rintro e w24 hrd
  obtain ⟨A9, n9, c9, i9, E9, l9, rfl, _, B24, _⟩ := hR1.out _ _ _ _ hrd
  have hrd' := Lib.hid hrd
  have hB24 := below_next hB23 B24
  clear hRd1 B24 hrd hR1 hB23
  have hRr2 := Lib.hid (hRr1.out w24 hB24)
  clear hRr1
  go_wp2_with fail
  refine hRr2.out.mono ?_; rintro e w25 hrd2
  obtain ⟨A8, n8, c8, l8, rfl, q1, q2, B25⟩ := hR2.out _ _ _ _ _ _ _ _ _ _ _ hrd'.out hrd2
  have hB25 := below_next hB24 B25
  have hEq := Lib.hid (equalSg_c A9 A8 n9 c9 n8 c8 l8 l8 w25 (q1.below B25) q2)
  rw [decide_eq_true (rfl : l8 = l8)] at hEq
  have b8 : (E9 == E9) = true := by simp
  have b9 : (i9 == i9) = true := by simp
  clear hRr2 hrd' hrd2 q1 q2 B25 hR2 hB24
  go_wp2_with fail
  refine hEq.out.mono ?_; rintro e w26 ⟨rfl, q26, rfl⟩
  have hB26 := below_drewN hB25 q26
  clear hEq hB25
  go_wp2_with fail
  refine (padded56_c _).mono ?_; rintro e wM ⟨rfl, BM⟩
  have hB := below_next hB26 BM
  go_wp2
  go_ret
  exact ⟨rfl, hB⟩
end Go.Proofs.YtnkhdofcmanipaaGreatDoor
