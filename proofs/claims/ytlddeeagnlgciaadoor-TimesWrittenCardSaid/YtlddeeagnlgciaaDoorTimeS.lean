/- Same, Speed and SpeedOf, Written exactly, Clocked. -/
import Derived.Test.YtlddeeagnlgciaaDoorTimeR
import Derived.Test.YtlddeeagnlgciaaDoorClockS
import Derived.Test.YtlddeeagnlgciaaDoorFrac
import Derived.Test.YtlddeeagnlgciaaDoorSwumR
namespace Go.Proofs.YtlddeeagnlgciaaDoor
open Go.RowKit
set_option linter.unusedVariables false

def tOk (n : Int) : Bool := decide (1 ≤ n ∧ n ≤ 360000)
def sameV (a b : Int) : Bool := tOk a && tOk b && decide (a / 10 = b / 10)
theorem same_c (a b : Int) (w : World) : Calls Tryd.prog 14 #[.int .i64 a, .int .i64 b] w fun e w' => e = .returned (.tuple #[.bool (sameV a b), .int .i64 (if (tOk a && tOk b) = true then 0 else 1)]) ∧ w' = w := by
  have hA := Lib.hid (isTime_c a w)
  have hB := Lib.hid (isTime_c b w)
  have hs : sameV a b = (tOk a && tOk b && decide (a / 10 = b / 10)) := rfl
  have ha2 : tOk a = decide (1 ≤ a ∧ a ≤ 360000) := rfl
  have hb2 : tOk b = decide (1 ≤ b ∧ b ≤ 360000) := rfl
  rw [hs]
  rw [← ha2] at hA
  rw [← hb2] at hB
  have hab : tOk a = true → 1 ≤ a ∧ a ≤ 360000 := fun h => of_decide_eq_true h
  have hbb : tOk b = true → 1 ≤ b ∧ b ≤ 360000 := fun h => of_decide_eq_true h
  generalize tOk a = ta at *
  generalize tOk b = tb at *
  clear hs ha2 hb2
  go_enter Tryd.func14, Tryd.ntmps14
  go_wp2_with fail
  refine hA.out.mono ?_; rintro e w' ⟨rfl, rfl⟩
  cases ta
  · go_wp2
    go_ret2
    exact ⟨rfl, rfl⟩
  · obtain ⟨h1, h3⟩ := hab rfl
    go_wp2_with fail
    refine hB.out.mono ?_; rintro e w' ⟨rfl, rfl⟩
    cases tb
    · go_wp2
      go_ret2
      exact ⟨rfl, rfl⟩
    · obtain ⟨h2, h4⟩ := hbb rfl
      go_wp2
      go_ret2
      refine ⟨?_, rfl⟩
      show Ending.returned (.tuple #[.bool (a / 10 == b / 10), .int .i64 0]) = Ending.returned (.tuple #[.bool (decide (a / 10 = b / 10)), .int .i64 0])
      rw [show (a / 10 == b / 10) = decide (a / 10 = b / 10) by by_cases hq : a / 10 = b / 10 <;> simp [hq]]
def spE (r : Race) (t : Int) : Int := if raceErr r ≠ 0 then raceErr r else if tOk t = true then 0 else 1
def spV (r : Race) (t : Int) : Int × Int := if spE r t = 0 then (fracN (r.metres * r.legs * 100) t, fracD (r.metres * r.legs * 100) t) else (0, 0)
theorem spV_eq {r : Race} {t : Int} (h : spE r t = 0) : spV r t = (fracN (r.metres * r.legs * 100) t, fracD (r.metres * r.legs * 100) t) := by unfold spV; rw [if_pos h]
theorem sp_ok {r : Race} {t : Int} (h : spE r t = 0) : raceErr r = 0 ∧ 1 ≤ t ∧ t ≤ 360000 := by
  unfold spE at h
  split at h
  · rename_i h1; exact absurd h h1
  · rename_i h1
    split at h
    · rename_i h2
      have h3 := of_decide_eq_true h2
      exact ⟨by simpa using h1, h3.1, h3.2⟩
    · cases h
theorem mm_bd {r : Race} (h : raceErr r = 0) : 0 ≤ r.metres * r.legs ∧ r.metres * r.legs ≤ 6000 := by
  obtain ⟨_, _, _, _, _, _, l1, l2, m1, m2, _⟩ := raceErr_ok h
  constructor
  · exact Int.mul_nonneg (by omega) (by omega)
  · have := Int.mul_le_mul m2 l2 (by omega) (by omega : (0 : Int) ≤ 1500)
    omega
set_option maxHeartbeats 1600000 in
set_option maxRecDepth 100000 in
theorem speed_c (r : Race) (t : Int) (w : World) : Calls Tryd.prog 16 #[r.val, .int .i64 t] w fun e w' => e = .returned (.tuple #[.agg #[.int .i64 (spV r t).1, .int .i64 (spV r t).2], .int .i64 (spE r t)]) ∧ Below w.heap.size w w' := by
  have hC := Lib.hid (fun W => checkRace_c r W)
  have hI := Lib.hid (fun W => isTime_c t W)
  have hE : spE r t = if raceErr r ≠ 0 then raceErr r else if decide (1 ≤ t ∧ t ≤ 360000) = true then 0 else 1 := rfl
  have hF := Lib.hid (fun W (h : spE r t = 0) => show Calls Tryd.prog 66 #[.int .i64 (r.metres * r.legs * 100), .int .i64 t] W _ from frac_c (r.metres * r.legs * 100) t W (by have := mm_bd (sp_ok h).1; omega) (by have := sp_ok h; omega) (by have := mm_bd (sp_ok h).1; omega) (by have := sp_ok h; omega))
  have hV : spE r t ≠ 0 → spV r t = (0, 0) := fun h => by unfold spV; rw [if_neg h]
  have hV2 := fun h => spV_eq (r := r) (t := t) h
  have hmm := fun h => mm_bd (r := r) (sp_ok (t := t) h).1
  generalize spV r t = SV at *
  generalize spE r t = SE at *
  obtain ⟨N, D⟩ := SV
  obtain ⟨key, metres, stroke, course, legs, sex, young, old⟩ := r
  dsimp only [Race.val, Race.cells] at *
  have hb0 := heap_alloc_new (w.alloc (.cells #[.string key, .int .i64 metres, .int .i64 stroke, .int .i64 course, .int .i64 legs, .int .i64 sex, .int .i64 young, .int .i64 old] 29)) (.cells #[.int .i64 0, .int .i64 0] 42)
  have ha0 := blk_alloc (heap_alloc_new w (.cells #[.string key, .int .i64 metres, .int .i64 stroke, .int .i64 course, .int .i64 legs, .int .i64 sex, .int .i64 young, .int .i64 old] 29)) (.cells #[.int .i64 0, .int .i64 0] 42)
  have alloc_size : ∀ (w : World) (o : Obj), (w.alloc o).heap.size = w.heap.size + 1 := fun w o => by simp
  have z0 := (blk_facts ha0).1
  generalize raceErr ⟨key, metres, stroke, course, legs, sex, young, old⟩ = RE at *
  by_cases hr : RE = 0
  · subst hr
    by_cases ht : (decide (1 ≤ t ∧ t ≤ 360000)) = true
    · rw [if_neg (by simp), if_pos ht] at hE
      subst hE
      obtain ⟨m1, m2⟩ := hmm rfl
      have hv := hV2 rfl
      injection hv with n1 n2
      rw [ht] at hI
      have hF' := Lib.hid (fun W => hF.out W rfl)
      have eV : fracV (metres * legs * 100) t = .agg #[.int .i64 (fracN (metres * legs * 100) t), .int .i64 (fracD (metres * legs * 100) t)] := rfl
      rw [eV, ← n1, ← n2] at hF'
      have k1 : IntKind.i64.wrap (metres * legs) = metres * legs := IntWalk.i64_in _ (by omega)
      have k2 : IntKind.i64.wrap (metres * legs * 100) = metres * legs * 100 := IntWalk.i64_in _ (by omega)
      clear hV hV2 hmm ht n1 n2 eV hF
      go_enter Tryd.func16, Tryd.ntmps16
      go_wp2_with fail
      refine (hC.out _).mono ?_; rintro e w1 ⟨rfl, B1⟩
      have hb1 := blk_below hb0 B1
      have ha1 := blk_below ha0 B1
      have z1 := (blk_facts ha1).1
      have c1 := z1 1
      have c4 := z1 4
      have B1' := below_box (below_box B1)
      clear hb0 ha0 z0 hC
      go_wp2_with fail
      refine (hI.out _).mono ?_; rintro e w' ⟨rfl, rfl⟩
      go_wp2_with fail
      refine (hF'.out _).mono ?_; rintro e w2 ⟨rfl, B2⟩
      obtain ⟨Z, Y⟩ := blk_facts (blk_below hb1 B2)
      simp only [alloc_size] at Z Y
      have B := below_next B1' B2
      clear hb1 ha1 z1 B1 B2 B1' alloc_size
      go_wp2
      refine bodyPost_ret (v := .tuple #[.agg #[.int .i64 N, .int .i64 D], .int .i64 0]) (by simp [results, Tryd.results16, go_sem, Z]) rfl ⟨rfl, ?_⟩
      repeat (with_reducible refine Below.setCell ?_ (by simp) _)
      exact B
    · rw [if_neg (by simp), if_neg ht] at hE
      subst hE
      have hv := hV (by decide)
      injection hv with n1 n2
      subst n1 n2
      have hd : decide (1 ≤ t ∧ t ≤ 360000) = false := by simpa using ht
      rw [hd] at hI
      clear hV hV2 hmm ht hF hd
      go_enter Tryd.func16, Tryd.ntmps16
      go_wp2_with fail
      refine (hC.out _).mono ?_; rintro e w1 ⟨rfl, B1⟩
      have hb1 := blk_below hb0 B1
      have B1' := below_box (below_box B1)
      clear hb0 ha0 z0 hC
      go_wp2_with fail
      refine (hI.out _).mono ?_; rintro e w' ⟨rfl, rfl⟩
      obtain ⟨Z, Y⟩ := blk_facts hb1
      simp only [alloc_size] at Z Y
      clear hb1 B1 alloc_size
      go_wp2
      refine bodyPost_ret (v := .tuple #[.agg #[.int .i64 0, .int .i64 0], .int .i64 1]) (by simp [results, Tryd.results16, go_sem, Z]) rfl ⟨rfl, ?_⟩
      repeat (with_reducible refine Below.setCell ?_ (by simp) _)
      exact B1'
  · rw [if_pos hr] at hE
    subst hE
    have hv := hV hr
    injection hv with n1 n2
    subst n1 n2
    have hne : (SE != 0) = true := by simpa using hr
    clear hV hV2 hmm hF hr
    go_enter Tryd.func16, Tryd.ntmps16
    go_wp2_with fail
    refine (hC.out _).mono ?_; rintro e w1 ⟨rfl, B1⟩
    obtain ⟨Z, Y⟩ := blk_facts (blk_below hb0 B1)
    simp only [alloc_size] at Z Y
    have B1' := below_box (below_box B1)
    clear hb0 ha0 z0 hC B1 alloc_size
    go_wp2
    refine bodyPost_ret (v := .tuple #[.agg #[.int .i64 0, .int .i64 0], .int .i64 SE]) (by simp [results, Tryd.results16, go_sem, Z]) rfl ⟨rfl, ?_⟩
    repeat (with_reducible refine Below.setCell ?_ (by simp) _)
    exact B1'
set_option maxHeartbeats 1600000 in
set_option maxRecDepth 100000 in
theorem speedOf_c (r : Race) (t : Int) (w : World) (h0 : spE r t = 0) : Calls Tryd.prog 19 #[r.val, .int .i64 t] w fun e w' => e = .returned (.agg #[.int .i64 (spV r t).1, .int .i64 (spV r t).2]) ∧ Below w.heap.size w w' := by
  have hok := sp_ok h0
  have hmm := mm_bd hok.1
  have hF := Lib.hid (fun W => lowest_c (r.metres * r.legs * 100) t W (by omega) (by omega) (by omega) (by omega))
  have hv := spV_eq h0
  generalize spV r t = SV at *
  obtain ⟨N, D⟩ := SV
  injection hv with n1 n2
  have eV : fracV (r.metres * r.legs * 100) t = .agg #[.int .i64 (fracN (r.metres * r.legs * 100) t), .int .i64 (fracD (r.metres * r.legs * 100) t)] := rfl
  rw [eV, ← n1, ← n2] at hF
  clear n1 n2 eV h0 hok
  obtain ⟨key, metres, stroke, course, legs, sex, young, old⟩ := r
  dsimp only [Race.val, Race.cells] at *
  have hb0 := heap_alloc_new (w.alloc (.cells #[.string key, .int .i64 metres, .int .i64 stroke, .int .i64 course, .int .i64 legs, .int .i64 sex, .int .i64 young, .int .i64 old] 29)) (.cells #[.int .i64 0, .int .i64 0] 42)
  have alloc_size : ∀ (w : World) (o : Obj), (w.alloc o).heap.size = w.heap.size + 1 := fun w o => by simp
  have k1 : IntKind.i64.wrap (metres * legs) = metres * legs := IntWalk.i64_in _ (by omega)
  have k2 : IntKind.i64.wrap (metres * legs * 100) = metres * legs * 100 := IntWalk.i64_in _ (by omega)
  clear hmm
  go_enter Tryd.func19, Tryd.ntmps19
  go_wp2_with fail
  refine (hF.out _).mono ?_; rintro e w2 ⟨rfl, B2⟩
  obtain ⟨Z, Y⟩ := blk_facts (blk_below hb0 B2)
  simp only [alloc_size] at Z Y
  have B := below_box (below_box B2)
  clear hb0 B2 alloc_size
  go_wp2
  refine bodyPost_ret (v := .agg #[.int .i64 N, .int .i64 D]) (by simp [results, Tryd.results19, go_sem, Z]) rfl ⟨rfl, ?_⟩
  repeat (with_reducible refine Below.setCell ?_ (by simp) _)
  exact B
theorem clocked1_c (g : Nat) (zs : List Int) (k : Nat) (w : World) (h : St w g zs k) (hk : k + 100 ≤ 1099511627776) :
    Calls Tryd.prog 6 #[.pointer (some ⟨g, 0, none⟩)] w fun e w' => ∃ v k', e = .returned (.int .i64 v) ∧ -1 ≤ v ∧ v ≤ 360001 ∧ St w' g zs k' ∧ k' ≤ k + 10 ∧ w.grownBy w' (some g) := by
  go_enter Tryd.func6, Tryd.ntmps6
  go_wp2_with fail
  refine (rangeE_c g zs k 1 9000 _ h (by omega) (by decide) (by decide) (by decide)).mono ?_; rintro e w1 ⟨a, rfl, a0, a1, s1, g1⟩
  go_wp2_with fail
  refine (rangeE_c g zs _ 1 360000 _ s1 (by omega) (by decide) (by decide) (by decide)).mono ?_; rintro e w2 ⟨b, rfl, b0, b1, s2, g2⟩
  have gr2 := grown_trans g1 g2
  clear h s1 g1 g2
  go_wp2_with fail
  refine (pickE_c g zs _ _ _ _ [0, 360000, 360001, -1] _ (s2.alloc _) (by omega) (R1.litAt _ _ _ _ (by first | rfl | (simp; done)) (by simp) (by simp)) (by decide)).mono ?_; rintro e w3 ⟨c, rfl, hc, s3, g3⟩
  have hc2 : -1 ≤ c ∧ c ≤ 360001 := by simp at hc; omega
  have gr3 := grown_trans (grown_alloc gr2 _) g3
  clear s2 g3 gr2 hc
  go_wp2_with fail
  refine (pickE_c g zs _ _ _ _ [1, 99, 100, 2345, 5999, 6000, 6012, 59999, 60000, a, b, c] _ (s3.alloc _) (by omega) (R1.litAt _ _ _ _ (by first | rfl | (simp; done)) (by simp) (by simp)) (by simp)).mono ?_; rintro e w4 ⟨v, rfl, hv, s4, g4⟩
  have hv2 : -1 ≤ v ∧ v ≤ 360001 := by simp at hv; omega
  have gr4 := grown_trans (grown_alloc gr3 _) g4
  go_wp2
  go_ret
  exact ⟨v, _, rfl, hv2.1, hv2.2, s4, by omega, gr4⟩
theorem two_dig {n : Nat} (h : n < 100) : digP (n / 10) ++ digP (n % 10) = twoP n := by
  have h2 : ∀ m : Fin 100, digP (m.val / 10) ++ digP (m.val % 10) = twoP m.val := by decide +kernel
  exact h2 ⟨n, h⟩
set_option maxRecDepth 100000 in
theorem writtenX_c (n : Int) (w : World) (h0 : 1 ≤ n) (h1 : n ≤ 360000) : Calls Tryd.prog 11 #[.int .i64 n] w fun e w' => e = .returned (.string ⟨(writeP n.toNat).toArray⟩) ∧ w' = w := by
  have i1 := Lib.hid (fun W => itoaD_c (n / 100 % 60) (by omega) (by omega) W)
  have i2 := Lib.hid (fun W => itoaD_c (n / 6000) (by omega) (by omega) W)
  have t1 := Lib.hid (fun W => twoR_c (n % 100) W (by omega) (by omega))
  have t2 := Lib.hid (fun W => twoR_c (n / 100 % 60) W (by omega) (by omega))
  have r1 : digP (n % 100 / 10).toNat ++ digP (n % 100 % 10).toNat = twoP (n.toNat % 100) := by
    rw [show (n % 100 / 10).toNat = n.toNat % 100 / 10 by omega, show (n % 100 % 10).toNat = n.toNat % 100 % 10 by omega]
    exact two_dig (by omega)
  have r2 : digP (n / 100 % 60 / 10).toNat ++ digP (n / 100 % 60 % 10).toNat = twoP (n.toNat / 100 % 60) := by
    rw [show (n / 100 % 60 / 10).toNat = n.toNat / 100 % 60 / 10 by omega, show (n / 100 % 60 % 10).toNat = n.toNat / 100 % 60 % 10 by omega]
    exact two_dig (by omega)
  have r3 : (n / 100 % 60).toNat = n.toNat / 100 % 60 := by omega
  have r4 : (n / 6000).toNat = n.toNat / 6000 := by omega
  rw [r1] at t1
  rw [r2] at t2
  rw [r3] at i1
  rw [r4] at i2
  have zd : ∀ m, (⟨(digP m).toArray⟩ : ByteArray).size ≤ 2 := fun m => by
    show (digP m).toArray.size ≤ 2
    rw [List.size_toArray]; exact digP_len _
  have za : (⟨(twoP (n.toNat % 100)).toArray⟩ : ByteArray).size = 2 := rfl
  have zb : (⟨(twoP (n.toNat / 100 % 60)).toArray⟩ : ByteArray).size = 2 := rfl
  have zc := zd (n.toNat / 100 % 60)
  have ze := zd (n.toNat / 6000)
  have hx : n < 6000 → (⟨(digP (n.toNat / 100 % 60)).toArray⟩ : ByteArray) ++ ⟨#[46]⟩ ++ ⟨(twoP (n.toNat % 100)).toArray⟩ = ⟨(writeP n.toNat).toArray⟩ := fun hl => by
    have : (⟨#[46]⟩ : ByteArray) = ⟨[46].toArray⟩ := rfl
    rw [this, str_app, str_app]
    unfold writeP
    rw [if_pos (by omega), show n.toNat / 100 % 60 = n.toNat / 100 by omega]
    simp
  have hy : ¬ n < 6000 → (⟨(digP (n.toNat / 6000)).toArray⟩ : ByteArray) ++ ⟨#[58]⟩ ++ ⟨(twoP (n.toNat / 100 % 60)).toArray⟩ ++ ⟨#[46]⟩ ++ ⟨(twoP (n.toNat % 100)).toArray⟩ = ⟨(writeP n.toNat).toArray⟩ := fun hl => by
    have : (⟨#[46]⟩ : ByteArray) = ⟨[46].toArray⟩ := rfl
    have e2 : (⟨#[58]⟩ : ByteArray) = ⟨[58].toArray⟩ := rfl
    rw [this, e2, str_app, str_app, str_app, str_app]
    unfold writeP
    rw [if_neg (by omega)]
    simp
  generalize (⟨(writeP n.toNat).toArray⟩ : ByteArray) = R at *
  generalize (⟨(twoP (n.toNat % 100)).toArray⟩ : ByteArray) = S1 at *
  generalize (⟨(twoP (n.toNat / 100 % 60)).toArray⟩ : ByteArray) = S2 at *
  generalize (⟨(digP (n.toNat / 100 % 60)).toArray⟩ : ByteArray) = D1 at *
  generalize (⟨(digP (n.toNat / 6000)).toArray⟩ : ByteArray) = D2 at *
  have y1 : D1.size + 1 ≤ 9223372036854775807 := by omega
  have y2 : D1.size + 1 + 2 ≤ 9223372036854775807 := by omega
  have y3 : D2.size + 1 ≤ 9223372036854775807 := by omega
  have y4 : D2.size + 1 + 2 ≤ 9223372036854775807 := by omega
  have y5 : D2.size + 1 + 2 + 1 ≤ 9223372036854775807 := by omega
  have y6 : D2.size + 1 + 2 + 1 + 2 ≤ 9223372036854775807 := by omega
  have hx' := Lib.hid hx
  have hy' := Lib.hid hy
  clear hx hy zc ze zd r1 r2 r3 r4
  go_enter Tryd.func11, Tryd.ntmps11
  go_wp2_with fail
  refine (i1.out _).mono ?_; rintro e w' ⟨rfl, rfl⟩
  go_wp2_with fail
  refine (t1.out _).mono ?_; rintro e w' ⟨rfl, rfl⟩
  by_cases hl : n < 6000
  · have hr := Lib.hid (hx'.out hl)
    go_wp2
    go_ret
    exact ⟨congrArg (fun x => Ending.returned (.string x)) hr.out, rfl⟩
  · have hr := Lib.hid (hy'.out (by omega))
    go_wp2_with fail
    refine (i2.out _).mono ?_; rintro e w' ⟨rfl, rfl⟩
    go_wp2_with fail
    refine (t2.out _).mono ?_; rintro e w' ⟨rfl, rfl⟩
    go_wp2_with fail
    refine (t1.out _).mono ?_; rintro e w' ⟨rfl, rfl⟩
    go_wp2
    go_ret
    exact ⟨congrArg (fun x => Ending.returned (.string x)) hr.out, rfl⟩
end Go.Proofs.YtlddeeagnlgciaaDoor
