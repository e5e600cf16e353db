/- TimesWritten: Write, Parse, Same and Speed answer as the reference says: the walk. -/
import Derived.Test.YtlddeeagnlgciaaDoorTimeS
import Derived.Laws.StructEq
import Derived.Deep.RegionHeld3
namespace Go.Proofs.YtlddeeagnlgciaaDoor
open Go.RowKit
set_option linter.unusedVariables false

theorem mx_of_shape {W : World} (h : W.ShapedOpen Tryd.prog) : Mx W := Tryd.laysM145.s1_3 W h
def wA (a : Int) : ByteArray := if tOk a = true then ⟨(writeP a.toNat).toArray⟩ else ⟨#[]⟩
theorem tOk_err (a : Int) : timeErr a = if tOk a = true then 0 else 1 := by
  unfold timeErr tOk
  by_cases h : 1 ≤ a ∧ a ≤ 360000
  · rw [if_pos h, if_pos (decide_eq_true h)]
  · rw [if_neg h, if_neg (by simpa using h)]
theorem writeE_c (a : Int) (w : World) : Calls Tryd.prog 9 #[.int .i64 a] w fun e w' => e = .returned (.tuple #[.string (wA a), .int .i64 (timeErr a)]) ∧ Below w.heap.size w w' := by
  rw [tOk_err]
  unfold wA
  by_cases h : tOk a = true
  · obtain ⟨h0, h1⟩ := of_decide_eq_true h
    rw [if_pos h, if_pos h]
    exact write_c a w h0 h1
  · rw [if_neg h, if_neg h]
    have hI := Lib.hid (isTime_c a w)
    have hd : decide (1 ≤ a ∧ a ≤ 360000) = false := by simpa [tOk] using h
    rw [hd] at hI
    clear h hd
    go_enter Tryd.func9, Tryd.ntmps9
    go_wp2_with fail
    refine hI.out.mono ?_; rintro e w' ⟨rfl, rfl⟩
    go_wp2
    go_ret2
    exact ⟨rfl, Below.refl _ _⟩
structure K14 (w : World) (b : Nat) (r : Race) (wx : World) : Prop where
  rc : wx.heap[b]? = some (.cells r.cells 29 (0, 0))
  bel : Below w.heap.size w wx
  mx : Mx wx
  tb : Tb wx
  ex : Ex wx
theorem K14.below {w : World} {b : Nat} {r : Race} {wx w' : World} (h : K14 w b r wx) (hb : Below wx.heap.size wx w') : K14 w b r w' := ⟨blk_below h.rc hb, below_next h.bel hb, h.mx.below hb, h.tb.below hb, h.ex.below hb⟩
set_option maxHeartbeats 6400000 in
set_option maxRecDepth 100000 in
theorem timesWritten_walk (a0 : Option Addr) (len0 cap0 : Nat) (z0 : List Int) (w : World) (w0 : IsRow .i64 w a0 len0 cap0 z0) (hmx : Mx w) (htb : Tb w) (hex : Ex w) :
    Calls Tryd.prog 3 #[.slice a0 len0 cap0] w fun e w' => e = .returned (.bool true) ∧ Below w.heap.size w w' := by
  have hs := law_start w0
  clear w0
  generalize z0.take len0 = zs at *
  go_enter Tryd.func3, Tryd.ntmps3
  go_wp2_with fail
  have hs' : St (w.alloc (.cells #[.slice a0 len0 cap0, .int .i64 0] 25)) w.heap.size zs 0 := hs
  refine (clocked1_c _ zs 0 _ hs' (by omega)).mono ?_; rintro e w1 ⟨a, k1, rfl, a0', a1, s1, hk1, g1⟩
  go_wp2_with fail
  refine (clocked1_c _ zs k1 _ s1 (by omega)).mono ?_; rintro e w2 ⟨b, k2, rfl, b0, b1, s2, hk2, g2⟩
  have gr2 := grown_trans g1 g2
  clear hs hs' s1 g1 g2
  go_wp2_with fail
  refine (clockString_c _ zs k2 _ s2 (by omega)).mono ?_; rintro e w3 ⟨t, k3, rfl, ht, s3, hk3, g3⟩
  have gr3 := grown_trans gr2 g3
  clear s2 g3 gr2
  go_wp2_with fail
  refine (swumRace_c _ zs k3 _ s3 (by omega)).mono ?_; rintro e w4 ⟨rfl, s4, g4⟩
  have gr4 := grown_trans gr3 g4
  have hB4 := (below_new w (.cells #[.slice a0 len0 cap0, .int .i64 0] 25)).trans (grown_below gr4 (Nat.le_refl _) (by simp))
  clear s3 g4 gr3 s4 gr4 hk1 hk2 hk3
  generalize (swumRace zs k3).1 = r at *
  have hbn := below_new w4 (.cells r.cells 29)
  have hB5 := below_next hB4 hbn
  have K : K14 w w4.heap.size r (w4.alloc (.cells r.cells 29)) := ⟨heap_alloc_new w4 _, hB5, hmx.below hB5, htb.below hB5, hex.below hB5⟩
  clear hmx htb hex hB4 hB5 hbn
  generalize hb7 : w4.heap.size = b7 at *
  have hKr : ∀ wx, K14 w b7 r wx → wx.heap[b7]? = some (.cells r.cells 29 (0, 0)) := fun wx h => h.rc
  have hKB : ∀ wx, K14 w b7 r wx → Below w.heap.size w wx := fun wx h => h.bel
  have hKm : ∀ wx, K14 w b7 r wx → Mx wx := fun wx h => h.mx
  have hKt : ∀ wx, K14 w b7 r wx → Tb wx := fun wx h => h.tb
  have hKe : ∀ wx, K14 w b7 r wx → Ex wx := fun wx h => h.ex
  have hKb : ∀ wx w', K14 w b7 r wx → Below wx.heap.size wx w' → K14 w b7 r w' := fun _ _ h hb => h.below hb
  generalize K14 w b7 r = KK at *
  have hW := Lib.hid (fun W => writeE_c a W)
  have hTa := Lib.hid (fun W => timeFault_c a W)
  have hTb2 := Lib.hid (fun W => timeFault_c b W)
  have hWr := Lib.hid (fun W (h : tOk a = true) => writtenX_c a W (of_decide_eq_true h).1 (of_decide_eq_true h).2)
  have hwA := Lib.hid (fun (h : tOk a = true) => show wA a = ⟨(writeP a.toNat).toArray⟩ by unfold wA; rw [if_pos h])
  have hwN := Lib.hid (fun (h : tOk a = false) => show wA a = ⟨#[]⟩ by unfold wA; rw [if_neg (by simp [h])])
  have hP := Lib.hid (fun W h => parse_c t W (by omega) h)
  have hPO := Lib.hid (fun W h1 h2 h3 => parsedOf_c t W (by omega) h1 h2 h3)
  have hS := Lib.hid (fun W => same_c a b W)
  have hSp := Lib.hid (fun W => speed_c r a W)
  have hSO := Lib.hid (fun W h => speedOf_c r a W h)
  have hRF := Lib.hid (fun W => raceFault_c r W)
  have hsv : sameV a b = (tOk a && tOk b && decide (a / 10 = b / 10)) := rfl
  have hsp : spE r a = if raceErr r ≠ 0 then raceErr r else if tOk a = true then 0 else 1 := rfl
  have hspn := Lib.hid (fun (h : spE r a ≠ 0) => show spV r a = (0, 0) by unfold spV; rw [if_neg h])
  rw [hsv] at hS
  have hEA := Lib.hid (tOk_err a)
  have hEB := Lib.hid (tOk_err b)
  have hES : Hid ((if (tOk a && tOk b) = true then (0 : Int) else 1) = if (tOk a && tOk b) = true then (0 : Int) else 1) := Lib.hid rfl
  generalize timeErr a = EA at *
  generalize timeErr b = EB at *
  generalize hes : (if (tOk a && tOk b) = true then (0 : Int) else 1) = ES at hS
  have hab : tOk a = true → 1 ≤ a ∧ a ≤ 360000 := fun h => of_decide_eq_true h
  have hbb : tOk b = true → 1 ≤ b ∧ b ≤ 360000 := fun h => of_decide_eq_true h
  generalize wA a = WA at *
  generalize (⟨(writeP a.toNat).toArray⟩ : ByteArray) = WP at *
  generalize tOk a = ta at *
  generalize tOk b = tb at *
  generalize parseP t.data.toList = PP at *
  generalize spV r a = SV at *
  generalize spE r a = SE at *
  generalize raceErr r = RE at *
  obtain ⟨P1, P2⟩ := PP
  obtain ⟨N, D⟩ := SV
  have hes' := Lib.hid hes
  have hsp' := Lib.hid hsp
  have hab' := Lib.hid hab
  have hbb' := Lib.hid hbb
  clear hsv ht hes hsp hES hab hbb
  obtain ⟨key, metres, stroke, course, legs, sex, young, old⟩ := r
  dsimp only [Race.val, Race.cells] at *
  have zc := (blk_facts (hKr _ K)).1
  go_wp2_with fail
  refine (hW.out _).mono ?_; rintro e w5 ⟨rfl, B5⟩
  replace K := hKb _ _ K B5
  clear zc B5 hW
  go_wp2_with fail
  refine (hTa.out _).mono ?_; rintro e w' ⟨rfl, rfl⟩
  go_upto_region 5 with (fail)
  go_cut [55] (fun s55 wx => s55 = .bool false ∧ wx = w5)
  case first =>
    cases ta
    · obtain rfl := hwN.out rfl
      obtain rfl : EA = 1 := hEA.out
      clear hspn hSp hSO hS hTb2 hP hPO hEB hes' hsp'
      go_wp2
      go_meet
      case rel => exact ⟨rfl, rfl⟩
    · obtain rfl := hwA.out rfl
      obtain rfl : EA = 0 := hEA.out
      clear hspn hSp hSO hS hTb2 hP hPO hEB hes' hsp'
      go_wp2_with fail
      refine (hWr.out _ (by first | rfl | trivial)).mono ?_; rintro e w' ⟨rfl, rfl⟩
      go_wp2
      go_meet
      case rel => exact ⟨rfl, rfl⟩
  case rest =>
    rename World => wx
    obtain ⟨rfl, rfl⟩ := hcut
    clear hWr hwA hwN
    go_wp2_with fail
    refine (hP.out _ (hKm _ K)).mono ?_; rintro e w6 ⟨rfl, B6⟩
    replace K := hKb _ _ K B6
    clear B6 hP
    go_wp2_with fail
    refine (hPO.out _ (hKm _ K) (hKt _ K) (hKe _ K)).mono ?_; rintro e w7 ⟨rfl, B7⟩
    replace K := hKb _ _ K B7
    clear B7 hPO
    go_wp2_with fail
    refine (hS.out _).mono ?_; rintro e w70 ⟨rfl, h70⟩
    have K := (show KK w70 by rw [h70]; exact K)
    clear h70
    go_wp2_with fail
    refine (hTa.out _).mono ?_; rintro e w71 ⟨rfl, h71⟩
    have K := (show KK w71 by rw [← h71]; exact K)
    clear h71
    go_wp2_with fail
    refine (hTb2.out _).mono ?_; rintro e w7 ⟨rfl, h7⟩
    have K := (show KK w7 by rw [← h7]; exact K)
    clear h7
    have K8 := hKb _ _ K (below_new w7 (.cells #[.int .i64 EA, .int .i64 EB] 31))
    go_wp2_with fail
    refine (orE_c _ _ _ [EA, EB] _ (R1.litAt _ _ _ [EA, EB] (by first | rfl | simp) rfl (by simp))).mono ?_; rintro e w' ⟨rfl, rfl⟩
    have hor := Lib.hid (orV_two EA EB)
    clear K
    generalize orV [EA, EB] = OV at *
    go_upto_region 13 with (fail)
    go_cut [101] (fun s101 wx => s101 = .bool false ∧ wx = w7.alloc (.cells #[.int .i64 EA, .int .i64 EB] 31))
    case first =>
      clear hspn hSp hSO hsp' hTa hTb2 hS hRF hKr hKB hKm hKt hKe hKb K8
      cases ta
      · obtain rfl : EA = 1 := hEA.out
        obtain rfl : ES = 1 := hes'.out.symm
        obtain rfl : OV = 1 := hor.out
        clear hEA hes' hor hEB
        go_wp2
        go_meet
        case rel => exact ⟨by simp, rfl⟩
      · obtain rfl : EA = 0 := hEA.out
        cases tb
        · obtain rfl : EB = 1 := hEB.out
          obtain rfl : ES = 1 := hes'.out.symm
          obtain rfl : OV = 1 := hor.out
          clear hEA hes' hor hEB
          go_wp2
          go_meet
          case rel => exact ⟨by simp, rfl⟩
        · obtain rfl : EB = 0 := hEB.out
          obtain rfl : ES = 0 := hes'.out.symm
          obtain rfl : OV = 0 := hor.out
          obtain ⟨q1, q2⟩ := hab'.out (by first | rfl | trivial)
          obtain ⟨q3, q4⟩ := hbb'.out (by first | rfl | trivial)
          clear hEA hes' hor hEB hab' hbb'
          by_cases hq : a / 10 = b / 10
          · go_wp2
            go_meet
            case rel => exact ⟨by simp [hq], rfl⟩
          · have hq2 : (a / 10 == b / 10) = false := beq_eq_false_iff_ne.2 hq
            go_wp2
            go_meet
            case rel => exact ⟨by simp [hq], rfl⟩
    case rest =>
      rename World => wx
      obtain ⟨rfl, rfl⟩ := hcut
      clear hTb2 hS hor hEB hes' hab' hbb'
      have zb := (blk_facts (hKr _ K8)).1
      have z0 := zb 0
      have z1 := zb 1
      have z2 := zb 2
      have z3 := zb 3
      have z4 := zb 4
      have z5 := zb 5
      have z6 := zb 6
      have z7 := zb 7
      clear zb
      go_wp2_with fail
      refine (hSp.out _).mono ?_; rintro e w9 ⟨rfl, B9⟩
      have K9 := hKb _ _ K8 B9
      have hf9 := heap_alloc_new w9 (.cells #[.int .i64 N, .int .i64 D] 42)
      have K10 := hKb _ _ K9 (below_new w9 (.cells #[.int .i64 N, .int .i64 D] 42))
      clear B9 K8 K9 z0 z1 z2 z3 z4 z5 z6 z7 hSp
      have hne : w9.heap.size ≠ b7 := by
        intro hc
        have h1 := lt_of_heap (hKr _ K10)
        have h2 := hKr _ K10
        rw [← hc, hf9] at h2
        cases h2
      have zb := (blk_facts (hKr _ K10)).1
      have z0 := zb 0
      have z1 := zb 1
      have z2 := zb 2
      have z3 := zb 3
      have z4 := zb 4
      have z5 := zb 5
      have z6 := zb 6
      have z7 := zb 7
      clear zb
      go_wp2_with fail
      refine (hRF.out _).mono ?_; rintro e w11 ⟨rfl, B11⟩
      have K11 := hKb _ _ K10 B11
      have hf11 := blk_below hf9 B11
      clear B11 K10 hf9 z0 z1 z2 z3 z4 z5 z6 z7 hRF
      go_wp2_with fail
      refine (hTa.out _).mono ?_; rintro e w12 ⟨rfl, h12⟩
      have K12 := (show KK w12 by rw [← h12]; exact K11)
      have hf12 : w12.heap[w9.heap.size]? = some (.cells #[.int .i64 N, .int .i64 D] 42 (0, 0)) := by rw [← h12]; exact hf11
      clear h12 K11 hf11 hTa
      have K13 := hKb _ _ K12 (below_new w12 (.cells #[.int .i64 RE, .int .i64 EA] 31))
      have hf13 := blk_alloc hf12 (.cells #[.int .i64 RE, .int .i64 EA] 31)
      go_wp2_with fail
      refine (orE_c _ _ _ [RE, EA] _ (R1.litAt _ _ _ [RE, EA] (by first | rfl | simp) rfl (by simp))).mono ?_; rintro e w' ⟨rfl, rfl⟩
      have hor : orV [RE, EA] = SE := by rw [orV_two, hsp'.out, hEA.out]
      rw [hor]
      clear hor K12 hf12 hsp' hEA
      have zb := (blk_facts (hKr _ K13)).1
      have z0 := zb 0
      have z1 := zb 1
      have z2 := zb 2
      have z3 := zb 3
      have z4 := zb 4
      have z5 := zb 5
      have z6 := zb 6
      have z7 := zb 7
      have yb := (blk_facts hf13).1
      have y0 := yb 0
      have y1 := yb 1
      clear zb yb
      by_cases h0 : SE = 0
      · have hSO' := Lib.hid (fun W => hSO.out W h0)
        subst h0
        clear hspn hSO
        clear z0 z1 z2 z3 z4 z5 z6 z7 y0 y1
        go_wp2_with fail
        have K14d : KK (w12.alloc (.cells #[.int .i64 RE, .int .i64 EA] 31)).drew := hKb _ _ K13 (below_drewN (Below.refl _ _) 1)
        have hfd : (w12.alloc (.cells #[.int .i64 RE, .int .i64 EA] 31)).drew.heap[w9.heap.size]? = some (.cells #[.int .i64 N, .int .i64 D] 42 (0, 0)) := hf13
        have z0 := (blk_facts (hKr _ K14d)).1 0
        have z1 := (blk_facts (hKr _ K14d)).1 1
        have z2 := (blk_facts (hKr _ K14d)).1 2
        have z3 := (blk_facts (hKr _ K14d)).1 3
        have z4 := (blk_facts (hKr _ K14d)).1 4
        have z5 := (blk_facts (hKr _ K14d)).1 5
        have z6 := (blk_facts (hKr _ K14d)).1 6
        have z7 := (blk_facts (hKr _ K14d)).1 7
        have z8 := (blk_facts hfd).1 0
        have z9 := (blk_facts hfd).1 1
        go_region_held3 (fun w' => w'.cell? ⟨b7, 0, none⟩ = some (.string key) ∧ w'.cell? ⟨b7, 1, none⟩ = some (.int .i64 metres) ∧ w'.cell? ⟨b7, 2, none⟩ = some (.int .i64 stroke) ∧ w'.cell? ⟨b7, 3, none⟩ = some (.int .i64 course) ∧ w'.cell? ⟨b7, 4, none⟩ = some (.int .i64 legs) ∧ w'.cell? ⟨b7, 5, none⟩ = some (.int .i64 sex) ∧ w'.cell? ⟨b7, 6, none⟩ = some (.int .i64 young) ∧ w'.cell? ⟨b7, 7, none⟩ = some (.int .i64 old) ∧ w'.cell? ⟨w9.heap.size, 0, none⟩ = some (.int .i64 N) ∧ w'.cell? ⟨w9.heap.size, 1, none⟩ = some (.int .i64 D)) (first | go_keep | with_reducible exact ⟨z0, z1, z2, z3, z4, z5, z6, z7, z8, z9⟩ | with_reducible exact ⟨p0, p1, p2, p3, p4, p5, p6, p7, p8, p9⟩ | with_reducible exact ⟨q0, q1, q2, q3, q4, q5, q6, q7, q8, q9⟩)
          (first
            | (go_at_call 19; with_reducible refine (hSO'.out _).mono ?_; rintro e w20 ⟨rfl, B20⟩; have K20 := hKb _ _ K14d B20; have hf20 := blk_below hfd B20; have p0 := (blk_facts (hKr _ K20)).1 0; have p1 := (blk_facts (hKr _ K20)).1 1; have p2 := (blk_facts (hKr _ K20)).1 2; have p3 := (blk_facts (hKr _ K20)).1 3; have p4 := (blk_facts (hKr _ K20)).1 4; have p5 := (blk_facts (hKr _ K20)).1 5; have p6 := (blk_facts (hKr _ K20)).1 6; have p7 := (blk_facts (hKr _ K20)).1 7; have p8 := (blk_facts hf20).1 0; have p9 := (blk_facts hf20).1 1)
            | (go_at_call 18; with_reducible refine (clocked_c _).mono ?_; rintro e w21 ⟨rfl, B21⟩; have K21 := hKb _ _ K20 B21; have hf21 := blk_below hf20 B21; have q0 := (blk_facts (hKr _ K21)).1 0; have q1 := (blk_facts (hKr _ K21)).1 1; have q2 := (blk_facts (hKr _ K21)).1 2; have q3 := (blk_facts (hKr _ K21)).1 3; have q4 := (blk_facts (hKr _ K21)).1 4; have q5 := (blk_facts (hKr _ K21)).1 5; have q6 := (blk_facts (hKr _ K21)).1 6; have q7 := (blk_facts (hKr _ K21)).1 7; have q8 := (blk_facts hf21).1 0; have q9 := (blk_facts hf21).1 1))
        have hBB := hKB _ K21
        go_wp2
        go_ret
        exact ⟨by simp, hBB⟩
      · have hv := hspn.out h0
        injection hv with n1 n2
        subst n1 n2
        have hne0 : (SE != 0) = true := by simpa using h0
        clear hspn hSO h0
        go_wp2_with fail
        refine (clocked_c _).mono ?_; rintro e w14 ⟨rfl, B14⟩
        have hBB := hKB _ (hKb _ _ K13 B14)
        go_wp2
        go_ret
        exact ⟨by simp, hBB⟩
end Go.Proofs.YtlddeeagnlgciaaDoor
