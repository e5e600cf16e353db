/- TopLapsRace: the walk. Printed by wip/gen60.py. -/
import Derived.Test.YtpepdkgkdbnakaaGreatDoorR60
import Derived.Test.YtpepdkgkdbnakaaGreatDoorPadK
import Derived.Test.YtpepdkgkdbnakaaGreatDoorDraws
import Derived.Laws.StructEq
import Derived.Deep.RegionHeld3
namespace Go.Proofs.YtpepdkgkdbnakaaGreatDoor
open Go.RowKit Go.Shelf Go.Lib Go.Sort
set_option linter.unusedVariables false

/-- what the loop over the lengths carries -/
structure K60 (w4 : World) (b7 b4 : Nat) (r : Race) (A : Option Addr) (n : Nat) (sp : List Int) (u : Value) (l : List Sg) (wx : World) : Prop where
  pb : PB w4 b7 u l wx
  ra : wx.heap[b4]? = some (.cells r.cells 139 (0, 0))
  sp : RI 3 wx A n sp
theorem K60.of {w4 : World} {b7 b4 : Nat} {r : Race} {A : Option Addr} {n : Nat} {sp : List Int} {u : Value} {l : List Sg} {wx : World} (h : PB w4 b7 u l wx) (hr : w4.heap[b4]? = some (.cells r.cells 139 (0, 0))) (hs : RI 3 w4 A n sp) : K60 w4 b7 b4 r A n sp u l wx := ⟨h, blk_below hr h.bel, hs.below h.bel⟩
theorem K60.below {w4 : World} {b7 b4 : Nat} {r : Race} {A : Option Addr} {n : Nat} {sp : List Int} {u : Value} {l : List Sg} {wx w' : World} (h : K60 w4 b7 b4 r A n sp u l wx) (B : Below wx.heap.size wx w') : K60 w4 b7 b4 r A n sp u l w' := ⟨h.pb.below B, blk_below h.ra B, h.sp.below B⟩
/-- the last touch is the last split -/
theorem ptV_last {sp : List Int} {n : Nat} (hl : sp.length = n) (hn : 1 ≤ n) {x : Int} (hx : sp[n - 1]? = some x) : (ptV sp n (mN n)).getLast? = some x := by
  have hm : 1 ≤ mN n := by unfold mN; omega
  rw [List.getLast?_eq_getElem?, ptV_len, ptV_at (by omega)]
  have e : (e0N n + 2 * ((mN n - 1 : Nat) : Int)).toNat = n := by unfold mN e0N at *; omega
  rw [e, List.getD_eq_getElem?_getD, hx]; rfl
set_option maxHeartbeats 12800000 in
set_option maxRecDepth 100000 in
theorem topLapsRace_walk (a0 : Option Addr) (len0 cap0 : Nat) (z0 : List Int) (w : World) (w0 : IsRow .i64 w a0 len0 cap0 z0) :
    Calls Tryz.prog 11 #[.slice a0 len0 cap0] w fun e w' => e = .returned (.bool true) ∧ Below w.heap.size w w' := by
  have hs := law_start w0
  clear w0
  generalize z0.take len0 = zs at *
  go_enter Tryz.func11, Tryz.ntmps11
  go_wp2_with fail
  have hs' : St (w.alloc (.cells #[.slice a0 len0 cap0, .int .i64 0] 25)) w.heap.size zs 0 := hs
  refine (plainRace_c w.heap.size zs 0 _ hs' (by omega)).mono ?_; rintro e w1 ⟨rfl, s1, g1⟩
  rw [plainRace_2] at s1
  have hok0 := plainRace_ok zs 0
  have hl16 := plain_len zs 0
  have hKw := Lib.hid (fun k => ks_whole zs 0 k)
  have hB1 : Below w.heap.size w w1 := (below_new w _).trans (grown_below g1 (Nat.le_refl _) (by simp))
  have hz1 : w.heap.size < w1.heap.size := s1.lt
  generalize (plainRace zs 0).1 = r at *
  clear hs hs' g1
  obtain ⟨hv1, hv2⟩ := lenNat hok0
  obtain ⟨N, hN⟩ : ∃ N : Nat, (lenV r).toNat = N := ⟨_, rfl⟩
  rw [hN] at hv1 hv2
  have hN16 : N ≤ 16 := by omega
  have hKs := Lib.hid (fun k W h hk => knownSplits_c w.heap.size zs k r W h hk hok0)
  have hLO := Lib.hid (fun W => show Calls Tryz.prog 93 #[r.val] W fun e w' => e = .returned (.int .i64 (N : Int)) ∧ Below W.heap.size W w' by rw [← hv1]; exact lengthsOf_c r W hok0)
  have hKS1 : Hid (∀ k, (knownSplits zs k r).length = N ∧ (knownSplits zs k r).Pairwise (· < ·) ∧ ∀ x ∈ knownSplits zs k r, 1 ≤ x ∧ x ≤ 27184) := Lib.hid (fun k => by
    unfold knownSplits
    rw [hN]
    obtain ⟨p1, p2⟩ := ks_pw (zs := zs) N k 0
    exact ⟨ks_length _ _ _, p1, fun x hx => ⟨by have := p2 x hx; omega, by have := ksL_bd (zs := zs) N k 0 x hx; omega⟩⟩)
  have hLine := Lib.hid (fun (sp : List Int) (hw : wholeErr r sp = 0) (hp : sp.Pairwise (· < ·)) (hl : sp.length = N) (e : Nat) (t : Int) (he : 1 ≤ e) (ht : sp[e - 1]? = some t) (hb : 0 ≤ t ∧ t ≤ 360000) => line60 hok0 hw hp hl hv1 he ht hb)
  have hLA := Lib.hid (fun A n c l t W h => lineAtA_c r A n c l t W h)
  have hPL := Lib.hid (fun A n c l W h hn => padLaps39_c r N (fun _ => ⟨hv1, hv2, hN16⟩) none 0 0 [] A n c l 1 1 W (RN.nil_ _ _ _ _ _) h hn)
  have hPS := Lib.hid (fun A n c l W h hn => padSheets_c r N (fun _ => ⟨hv1, hv2, hN16⟩) none 0 0 [] A n c l 1 1 W (RN.nil_ _ _ _ _ _) h hn)
  have hclE := Lib.hid (fun (PT : List Int) (hb : ∀ p ∈ PT, 0 ≤ p ∧ p ≤ 360000) (hl : PT.length ≤ 18) => show clE r [] (sg60 PT) 1 1 = 0 by
    unfold clE ttE bothErr laneErr
    rw [if_neg (by simpa using hok0), starts60]
    have h1 : clkErr [] = 0 := rfl
    rw [h1, sig60 hb hl]
    rfl)
  have hcs : Hid (25 ≤ r.course ∧ r.course ≤ 50) := Lib.hid (by
    obtain ⟨_, _, _, _, _, hc, _⟩ := raceErr_ok hok0
    omega)
  have hra := heap_alloc_new w1 (.cells r.cells 139)
  have s2 := s1.alloc (.cells r.cells 139)
  have hB2 := hB1.alloc hB1.size (.cells r.cells 139)
  have hra' := Lib.hid (fun W (B : Below (w1.alloc (.cells r.cells 139)).heap.size (w1.alloc (.cells r.cells 139)) W) => blk_below hra B)
  have hcr := (blk_facts hra).1
  clear hok0 hl16 hB1 s1
  have hrv : r.val = .agg r.cells := rfl
  generalize hrE : wholeErr r = WE at *
  obtain ⟨key, metres, stroke, course, legs, sex, young, old⟩ := r
  dsimp only [Race.val, Race.cells] at *
  clear hrE hrv
  go_wp2_with fail
  refine (hLO.out _).mono ?_; rintro e w3 ⟨rfl, B3⟩
  have hra3 := hra'.out _ B3
  have s3 := s2.below B3
  have hB3 := below_next hB2 B3
  have hcr3 := (blk_facts hra3).1
  clear hra hra' s2 hB2 B3 hLO hcr
  generalize w1.heap.size = b4 at *
  go_wp2_with fail
  refine (hKs.out _ _ s3 (by omega)).mono ?_; rintro e w4 ⟨A, n, c, rfl, o4, s4, g4⟩
  have hra4 := blk_grown hra3 g4 (by simp; omega)
  have hB4 := hB3.trans (grown_below g4 (Nat.le_refl _) hB3.size)
  obtain ⟨hS1, hS2, hS3⟩ := hKS1.out (0 + 9)
  have hSw := hKw.out (0 + 9)
  generalize knownSplits zs (0 + 9) _ = sp at *
  have hnN : n = N := by have := o4.1; rw [ints_len] at this; omega
  subst hnN
  have r4 : RI 3 w4 A n sp := R1.of_own o4 (by omega)
  clear hKs hKS1 hKw s3 s4 o4 g4 hB3 hra3 hcr3
  have P0 : PB w4 w4.heap.size (.slice none 0 0) [] (w4.alloc (.cells #[.slice none 0 0] 122)) := ⟨heap_alloc_new w4 _, World.ownsRow_nil _ _ _ _, below_new w4 _, Nat.le_refl _⟩
  go_wp2_with fail
  refine (put60_c w4 w4.heap.size (.slice none 0 0) [] 1 1000 0 _ P0 (by simp)).mono ?_; rintro e w5 ⟨rfl, u5, P5⟩
  replace P5 : PB w4 w4.heap.size u5 (sg60 (ptV sp n 0)) w5 := P5
  have K5 := K60.of (r := ⟨key, metres, stroke, course, legs, sex, young, old⟩) P5 hra4 r4
  have hK6 := Lib.hid (fun u l W (h : PB w4 w4.heap.size u l W) => K60.of (r := ⟨key, metres, stroke, course, legs, sex, young, old⟩) h hra4 r4)
  have hPut := Lib.hid (fun u l kind tm lane W h hn => put60_c w4 w4.heap.size u l kind tm lane W h hn)
  have hb0 := hB4.size
  have hRa : ∀ u l W, K60 w4 w4.heap.size b4 ⟨key, metres, stroke, course, legs, sex, young, old⟩ A n sp u l W → ∀ i, W.cell? ⟨b4, i, none⟩ = (#[.string key, .int .i64 metres, .int .i64 stroke, .int .i64 course, .int .i64 legs, .int .i64 sex, .int .i64 young, .int .i64 old] : Array Value)[i]? := fun u l W h => (blk_facts h.ra).1
  replace hRa := Lib.hid hRa
  clear P0 P5 hra4 r4
  generalize w4.heap.size = b7 at *
  have hpl := fun j => ptV_len sp n j
  have e0b := e0N_bd n
  have hst0 : Hid (true = gdB (e0N n) none (ptV sp n 0)) := Lib.hid rfl
  have hmN : 2 * mN n = n + (2 - (e0N n).toNat) := by unfold mN e0N; omega
  have hpar : Hid ((e0N n - (n : Int)) % 2 = 0) := Lib.hid (by unfold e0N; omega)
  clear hv1 hN
  go_wp2_with fail
  go_loopw [9, 10, 11] (fun gv lv kv wx => ∃ (k j : Nat) (la : Int) (g : Bool) (u : Value), 1 ≤ k ∧ k ≤ n + 1 ∧ kv = .int .i64 k ∧ gv = .bool g ∧ lv = .int .i64 la ∧ ((k : Int) ≤ e0N n + 2 * (j : Int) ∧ e0N n + 2 * (j : Int) ≤ (k : Int) + 1) ∧ j ≤ mN n ∧ K60 w4 b7 b4 ⟨key, metres, stroke, course, legs, sex, young, old⟩ A n sp u (sg60 (ptV sp n j)) wx ∧ Hid (g = gdB (e0N n) none (ptV sp n j)) ∧ Hid (la = (ptV sp n j).getLast?.getD 0) ∧ (0 ≤ la ∧ la ≤ 27184) ∧ (j = 0 ↔ la = 0)) (fun _ _ kv _ => n + 1 - (intOf kv).toNat)
  case atStart => exact ⟨1, 0, 0, true, u5, Nat.le_refl _, by omega, rfl, rfl, rfl, by omega, Nat.zero_le _, K5, hst0, Lib.hid rfl, by omega, by simp⟩
  case round =>
    clear K5 hst0
    obtain ⟨k, j, la, g, u, hk0, hk1, rfl, rfl, rfl, ⟨hj1, hj2⟩, hjm, K, hg, hla, ⟨hl0, hl1⟩, hjl⟩ := hrel
    by_cases hlt : k ≤ n
    · have hki : (k : Int) ≤ (n : Int) := by omega
      have hw0 : IntKind.i64.wrap ((n : Int) - (k : Int)) = (n : Int) - (k : Int) := IntWalk.i64_in _ (by omega)
      by_cases hp : e0N n + 2 * (j : Int) = (k : Int)
      rotate_left
      · have hm : ((n : Int) - (k : Int)).tmod 2 = 1 := by
          rw [Int.tmod_eq_emod_of_nonneg (by omega)]
          have := hpar.out
          omega
        have hw1 : IntKind.i64.wrap (((n : Int) - (k : Int)).tmod 2) = 1 := by rw [hm]; rfl
        clear hm
        go_wp2
        go_roundw
        case rel => exact ⟨k + 1, j, la, g, u, by omega, by omega, by go_num, rfl, rfl, by omega, hjm, K, hg, hla, ⟨hl0, hl1⟩, hjl⟩
        case measure => simp [intOf]; omega
      · have hm : ((n : Int) - (k : Int)).tmod 2 = 0 := by
          rw [Int.tmod_eq_emod_of_nonneg (by omega)]
          have := hpar.out
          omega
        have hw1 : IntKind.i64.wrap (((n : Int) - (k : Int)).tmod 2) = 0 := by rw [hm]; rfl
        clear hm
        have hjlt : j < mN n := by omega
        obtain ⟨bS, oS, x, rfl, lS, hx, cS⟩ := K.sp.at_ (k := k - 1) (by omega)
        have hxb := hS3 x (List.mem_of_getElem? hx)
        have hpt : Hid (ptV sp n (j + 1) = ptV sp n j ++ [x]) := Lib.hid (by
          rw [ptV_succ, show (e0N n + 2 * (j : Int)).toNat = k by omega, List.getD_eq_getElem?_getD, hx]; rfl)
        have hsg : Hid (sg60 (ptV sp n j) ++ [⟨dN, ((sg60 (ptV sp n j)).length : Int) + 1, 2, 1000 + 10 * x, 1, 0⟩] = sg60 (ptV sp n (j + 1))) := Lib.hid (by
          rw [hpt.out, sg60_snoc, sg60_len, hpl]
          show _ ++ [_] = _ ++ [pad60 j x]
          unfold pad60
          rw [show ((j + 1 : Nat) : Int) + 1 = (j : Int) + 2 by omega])
        have hsl : (sg60 (ptV sp n j)).length ≤ 100 := by rw [sg60_len, hpl]; omega
        have hla2 : Hid (x = (ptV sp n (j + 1)).getLast?.getD 0) := Lib.hid (by rw [hpt.out]; simp)
        have hq1 : ((k : Int) - 1).toNat = k - 1 := by omega
        have hq2 : (1 : Int) ≤ (k : Int) := by omega
        have hq3 : IntKind.i64.wrap ((k : Int) - 1) = (k : Int) - 1 := IntWalk.i64_in _ (by omega)
        have hq4 : IntKind.i64.wrap (10 * x) = 10 * x := IntWalk.i64_in _ (by omega)
        have hq5 : IntKind.i64.wrap (1000 + 10 * x) = 1000 + 10 * x := IntWalk.i64_in _ (by omega)
        have hq6 : IntKind.i64.wrap (x - la) = x - la := IntWalk.i64_in _ (by omega)
        have hq7 : IntKind.i64.wrap ((k : Int) * 1000) = (k : Int) * 1000 := IntWalk.i64_in _ (by omega)
        have hPut2 := Lib.hid (fun W h => hPut.out u (sg60 (ptV sp n j)) 2 (1000 + 10 * x) 1 W h hsl)
        have hPB := K.pb
        clear hx
        by_cases hz : la = 0
        · have hj0 := hjl.2 hz
          have hgs : Hid (gdB (e0N n) none (ptV sp n (j + 1)) = (g && decide ((k : Int) * 1000 ≤ x - 0))) := Lib.hid (by
            rw [hpt.out, gdB_step, ← hg.out, ← hla.out, hz]
            have hnil : ptV sp n j = [] := List.eq_nil_of_length_eq_zero (by rw [hpl]; exact hj0)
            rw [if_pos ⟨rfl, hnil⟩, show e0N n = (k : Int) by omega])
          subst hz
          have hj0' := Lib.hid hj0
          clear hj0 hjl hg hla
          cases g
          · go_wp2_with fail
            refine (hPut2.out _ hPB).mono ?_; rintro e w6 ⟨rfl, u6, P6⟩
            rw [hsg.out] at P6
            have K6 := hK6.out _ _ _ P6
            clear P6 hPB K cS
            go_wp2
            go_roundw
            case rel => exact ⟨k + 1, j + 1, x, _, u6, by omega, by omega, by go_num, rfl, rfl, by omega, by omega, K6, Lib.hid (by rw [hgs.out]; rfl), hla2, by omega, by omega⟩
            case measure => simp [intOf]; omega
          · go_wp2_with fail
            refine (hPut2.out _ hPB).mono ?_; rintro e w6 ⟨rfl, u6, P6⟩
            rw [hsg.out] at P6
            have K6 := hK6.out _ _ _ P6
            clear P6 hPB K cS
            go_wp2
            go_roundw
            case rel => exact ⟨k + 1, j + 1, x, _, u6, by omega, by omega, by go_num, rfl, rfl, by omega, by omega, K6, Lib.hid (by rw [hgs.out]; simp), hla2, by omega, by omega⟩
            case measure => simp [intOf]; omega
        · have hj0 : j ≠ 0 := fun h => hz (hjl.1 h)
          have hzb : (la == 0) = false := by simpa using hz
          have hgs : Hid (gdB (e0N n) none (ptV sp n (j + 1)) = (g && decide (2000 ≤ x - la))) := Lib.hid (by
            rw [hpt.out, gdB_step, ← hg.out, ← hla.out, if_neg (fun h => hz h.1)])
          clear hz hjl hg hla
          cases g
          · go_wp2_with fail
            refine (hPut2.out _ hPB).mono ?_; rintro e w6 ⟨rfl, u6, P6⟩
            rw [hsg.out] at P6
            have K6 := hK6.out _ _ _ P6
            clear P6 hPB K cS
            go_wp2
            go_roundw
            case rel => exact ⟨k + 1, j + 1, x, _, u6, by omega, by omega, by go_num, rfl, rfl, by omega, by omega, K6, Lib.hid (by rw [hgs.out]; rfl), hla2, by omega, by omega⟩
            case measure => simp [intOf]; omega
          · go_wp2_with fail
            refine (hPut2.out _ hPB).mono ?_; rintro e w6 ⟨rfl, u6, P6⟩
            rw [hsg.out] at P6
            have K6 := hK6.out _ _ _ P6
            clear P6 hPB K cS
            go_wp2
            go_roundw
            case rel => exact ⟨k + 1, j + 1, x, _, u6, by omega, by omega, by go_num, rfl, rfl, by omega, by omega, K6, Lib.hid (by rw [hgs.out]; simp), hla2, by omega, by omega⟩
            case measure => simp [intOf]; omega
    · have hjM : j = mN n := by omega
      obtain rfl : k = n + 1 := by omega
      subst hjM
      have hPl := hpl (mN n)
      have hmN8 : 1 ≤ mN n ∧ mN n ≤ 8 := by unfold mN; omega
      have hPr := Lib.hid (ptV_rise hS2 (fun x hx => (hS3 x hx).1) hS1 (Nat.le_refl (mN n)))
      have hPb := Lib.hid (fun p (hp : p ∈ ptV sp n (mN n)) => show 0 ≤ p ∧ p ≤ 360000 by have := hS3 p (ptV_mem hS1 (Nat.le_refl (mN n)) p hp); omega)
      have hspn := at_of_lt (l := sp) (k := n - 1) (by omega)
      obtain ⟨xl, hxl⟩ := hspn
      have hPlast := Lib.hid (ptV_last hS1 hv2 hxl)
      have hxlb := hS3 xl (List.mem_of_getElem? hxl)
      have hxl' := Lib.hid hxl
      have hPTat := Lib.hid (fun q x (hq : q < mN n) (h : (ptV sp n (mN n))[q]? = some x) => show sp[(e0N n + 2 * (q : Int)).toNat - 1]? = some x by
        have h1 := end_le (N := n) (i := q) hq
        rw [ptV_at hq, List.getD_eq_getElem?_getD, List.getElem?_eq_getElem (by omega)] at h
        rw [List.getElem?_eq_getElem (by omega)]; exact h)
      obtain ⟨Au, cu, rfl⟩ := own_shape K.pb.o
      have hsl : (sg60 (ptV sp n (mN n))).length ≤ 9 := by rw [sg60_len, hPl]; omega
      have rG : RSg wr Au (sg60 (ptV sp n (mN n))).length (sg60 (ptV sp n (mN n))) := RN.of_own sgE_len K.pb.o rfl (by omega)
      have hc0 := hclE.out (ptV sp n (mN n)) hPb.out (by omega)
      have htV := tou60 hPr.out hPb.out
      have hPL2 := Lib.hid (fun W h => hPL.out Au (sg60 (ptV sp n (mN n))).length cu (sg60 (ptV sp n (mN n))) W h (by omega))
      have hPS2 := Lib.hid (fun W h => hPS.out Au (sg60 (ptV sp n (mN n))).length cu (sg60 (ptV sp n (mN n))) W h (by omega))
      rw [hc0, if_pos rfl, show (1 : Int).toNat = 1 from rfl] at hPL2 hPS2
      rw [htV] at hPL2
      have hSl := sheetsV_len [] (sg60 (ptV sp n (mN n))) n 1 1
      have hgl := Lib.hid (fun (h : gdB (e0N n) none (ptV sp n (mN n)) = true) => laps60 (fun p hp => by have := hPb.out p hp; omega) hv2 hN16 h hPl)
      have hgs := Lib.hid (fun (h : gdB (e0N n) none (ptV sp n (mN n)) = true) => sheet60 hPr.out hPb.out hv2 hN16 h hPl hPlast.out)
      have hEnd := Lib.hid (fun q (hq : q < mN n) => endsV_at n q hq)
      clear hclE hPL hPS hc0 htV hPr hPb hPlast hPut hjl hla hxl hpl hK6 hpar
      have hline2 := Lib.hid (hLine.out sp hSw hS2 hS1)
      clear hLine hSw
      generalize ptV sp n (mN n) = PT at *
      generalize sheetsV [] (sg60 PT) n 1 1 = SVS at *
      generalize lapsV n PT = LX at *
      generalize sg60 PT = SG at *
      have cb : wr.cell? ⟨b7, 0, none⟩ = some (.slice Au SG.length cu) := (blk_facts K.pb.bx).1 0
      have hcr := hRa.out _ _ _ K
      have hbel := K.pb.bel
      go_wp2_with fail
      refine (hPL2.out _ rG).mono ?_; rintro e w6 ⟨A6, c6, rfl, r6, B6⟩
      have K6 := K.below B6
      have rG6 := rG.below B6
      have cb6 : w6.cell? ⟨b7, 0, none⟩ = some (.slice Au SG.length cu) := (blk_facts K6.pb.bx).1 0
      have hcr6 := hRa.out _ _ _ K6
      clear hPL2 K rG cb hcr B6 hbel
      go_wp2_with fail
      refine (hPS2.out _ rG6).mono ?_; rintro e w7 ⟨A7, c7, S7, rfl, r7, d7, B7⟩
      have K7 := K6.below B7
      have r6b := r6.below B7
      have hfin := below_next hB4 K7.pb.bel
      have hd7 := Lib.hid d7
      rw [hSl] at r7 ⊢
      clear hPS2 K6 rG6 cb6 hcr6 B7 r6 d7
      cases g
      · go_wp2_with fail
        refine (h60_c _).mono ?_; rintro e w8 ⟨rfl, B8⟩
        have hfB := below_next hfin B8
        go_wp2
        go_ret
        exact ⟨rfl, hfB⟩
      · obtain ⟨hLl, hLx⟩ := hgl.out hg.out.symm
        have hSe := hgs.out hg.out.symm
        have hLx' := Lib.hid hLx
        have hS7 := Lib.hid (hd7.out.trans hSe)
        clear hgl hgs hg hLx hSe hd7 hSl
        have hR6 := Lib.hid (fun W (B : Below w7.heap.size w7 W) => r6b.below B)
        have hK7 := Lib.hid (fun W (B : Below w7.heap.size w7 W) => K7.below B)
        have hR7 := Lib.hid (fun W (B : Below w7.heap.size w7 W) => r7.below B)
        have hFB := Lib.hid (fun W (B : Below w7.heap.size w7 W) => below_next hfin B)
        clear r6b K7 r7 hfin
        go_wp2_with fail
        go_loopw [100] (fun iv wx => ∃ q : Nat, q ≤ LX.length ∧ iv = .int .i64 q ∧ Below w7.heap.size w7 wx) (fun iv _ => LX.length - (intOf iv).toNat)
        case atStart => exact ⟨0, Nat.zero_le _, rfl, Below.refl _ _⟩
        case round =>
          rename World => wx
          obtain ⟨q, hq, rfl, B⟩ := hrel
          by_cases hlt2 : q < LX.length
          · obtain ⟨b, off, y, rfl, hb, hy, c0, c1, c2⟩ := RLp.atN (hR6.out _ B) hlt2
            obtain ⟨y1, y2, y3⟩ := hLx'.out q y hy
            have hqm : q < mN n := by omega
            rw [hEnd.out q hqm] at y2
            injection y2 with y2
            have y4 := hPTat.out q y.time hqm y3
            have hle := end_le (N := n) (i := q) hqm
            obtain ⟨e, he⟩ : ∃ e : Nat, (e0N n + 2 * (q : Int)).toNat = e := ⟨_, rfl⟩
            have he1 : 1 ≤ e := by omega
            have hyl : y.length = (e : Int) := by omega
            rw [he] at y4 hle
            have hyb := hS3 y.time (List.mem_of_getElem? y4)
            obtain ⟨l1, l2, l3⟩ := hline2.out e y.time he1 y4 (by omega)
            have B2 := B.alloc B.size (.cells #[.int .i64 y.length, .int .i64 y.time, .bool y.filled] 151)
            have hb9 := heap_alloc_new wx (.cells #[.int .i64 y.length, .int .i64 y.time, .bool y.filled] 151)
            obtain ⟨bS, oS, x, rfl, lS, hx, cS⟩ := (hK7.out _ B2).sp.at_ (k := e - 1) (by omega)
            obtain rfl : x = y.time := by rw [y4] at hx; injection hx with hx; exact hx.symm
            obtain ⟨yl, yt, yf⟩ := y
            dsimp only at *
            subst hyl y1
            have z0 := (blk_facts hb9).1 0
            have z1 := (blk_facts hb9).1 1
            have z2 := (blk_facts hb9).1 2
            have hq1 : ((e : Int) - 1).toNat = e - 1 := by omega
            have hq2 : (1 : Int) ≤ (e : Int) := by omega
            have hq3 : IntKind.i64.wrap ((e : Int) - 1) = (e : Int) - 1 := IntWalk.i64_in _ (by omega)
            have hq4 : (e : Int) - 1 < (n : Int) := by omega
            have hq5 : (0 : Int) ≤ (e : Int) - 1 := by omega
            clear hy y2 y3 y4 hx he hb B
            go_wp2_with fail
            go_quiet (fail)
            have hcr := hRa.out _ _ _ (hK7.out _ B2)
            have hwc : IntKind.i64.wrap ((e : Int) * course) = (e : Int) * course := by
              obtain ⟨k1, k2⟩ := hcs.out
              have h1 := Int.mul_le_mul (a := (e : Int)) (b := course) (c := 16) (d := 50) (by omega) k2 (by omega) (by omega)
              have h2 := Int.mul_nonneg (a := (e : Int)) (b := course) (by omega) (by omega)
              exact IntWalk.i64_in _ (by omega)
            go_wp2_with fail
            have hl9 := hLA.out _ n c sp yt _ (hK7.out _ (below_drewN B2 nq)).sp
            rw [l1, l2, l3] at hl9
            refine hl9.mono ?_; rintro e' w8 ⟨rfl, B8⟩
            have B3 := below_next (below_drewN B2 _) B8
            have hb8 := blk_below (show ((wx.alloc (.cells #[.int .i64 (e : Int), .int .i64 yt, .bool false] 151)).drewN nq).heap[wx.heap.size]? = some (.cells #[.int .i64 (e : Int), .int .i64 yt, .bool false] 151 (0, 0)) from hb9) B8
            have hcr8 := hRa.out _ _ _ (hK7.out _ B3)
            have x0 := (blk_facts hb8).1 0
            have x1 := (blk_facts hb8).1 1
            have hb10 := blk_below hb8 (below_new w8 (.cells #[.int .i64 ((e : Int) * course), .int .i64 1] 153))
            have x3 := (blk_facts hb10).1 0
            have hb11 := heap_alloc_new w8 (.cells #[.int .i64 ((e : Int) * course), .int .i64 1] 153)
            have x4 := (blk_facts hb11).1 0
            have x5 := (blk_facts hb11).1 1
            have B4 := B3.alloc B3.size (.cells #[.int .i64 ((e : Int) * course), .int .i64 1] 153)
            have hcr9 := hRa.out _ _ _ (hK7.out _ B4)
            clear hl9 hb9 B8 B2 z0 z1 z2 cS c0 c1 c2 hcr l1 l2 l3
            go_wp2_with fail
            go_roundw
            case rel => exact ⟨q + 1, by omega, by go_num, B4⟩
            case measure => simp [intOf]; omega
          · obtain rfl : q = LX.length := by omega
            have K8 := hK7.out _ B
            obtain ⟨bH, oH, xs, rfl, lH, hx, _, _, c2, c3, _⟩ := (hR7.out _ B).at4 (k := 0) (by omega)
            have hx9 := congrArg (fun l => l[0]?) hS7.out
            simp only [List.getElem?_map, hx, Option.map_some, List.getElem?_cons_zero, Option.some.injEq, Shc.dat, Shd.mk.injEq] at hx9
            obtain ⟨_, _, e2, e3⟩ := hx9
            rw [e2] at c2
            rw [e3] at c3
            obtain ⟨bS, oS, x, rfl, lS, hxs, cS⟩ := K8.sp.at_ (k := n - 1) (by omega)
            obtain rfl : x = xl := by rw [hxl'.out] at hxs; injection hxs with hxs; exact hxs.symm
            have hq1 : ((n : Int) - 1).toNat = n - 1 := by omega
            have hq3 : IntKind.i64.wrap ((n : Int) - 1) = (n : Int) - 1 := IntWalk.i64_in _ (by omega)
            have hq4 : (n : Int) - 1 < (n : Int) := by omega
            have hq5 : (0 : Int) ≤ (n : Int) - 1 := by omega
            have hgt : (0 : Int) < (mN n : Int) := by omega
            have hg1 : 0 < mN n := by omega
            have hg2 : decide (0 < mN n) = true := decide_eq_true hg1
            have hg3 : decide ((0 : Int) < (mN n : Int)) = true := decide_eq_true hgt
            have hq2 : (1 : Int) ≤ (n : Int) := by omega
            have hfb := hFB.out _ B
            have hfin2 := Lib.hid (below_drewN hfb 1)
            clear hlt2 K8 hx hxs e2 e3 hfb hLx' hR6 hK7 hR7 hFB
            have hz0 : wx.heap.size ≤ wx.heap.size := Nat.le_refl _
            go_wp2_with fail
            first
              | (go_region_held3 (fun w' => w'.cell? ⟨bH, oH + 0 * 4 + 2, none⟩ = some (.int .i64 x) ∧ w'.cell? ⟨bH, oH + 0 * 4 + 3, none⟩ = some (.int .i64 1) ∧ w'.cell? ⟨bS, oS + (n - 1), none⟩ = some (.int .i64 x))
                (first | go_keep | with_reducible exact ⟨c2, c3, cS⟩ | with_reducible exact ⟨p2, p3, pS⟩)
                (first | (go_at_call 98; refine (h60_c _).mono ?_; rintro e w9 ⟨rfl, B9⟩; have p2 := (B9.cell (p := ⟨bH, oH + 0 * 4 + 2, none⟩) lH).trans c2; have p3 := (B9.cell (p := ⟨bH, oH + 0 * 4 + 3, none⟩) lH).trans c3; have pS := (B9.cell (p := ⟨bS, oS + (n - 1), none⟩) lS).trans cS)))
              | fail "held"
            all_goals
              have hend := below_next hfin2.out B9
              clear p2 p3 pS hgt hg1 hg2 hg3 hq2 hq1 hq3 hq4 hq5
              go_wp2
              first
                | (go_ret; exact ⟨rfl, hend⟩)
                | (go_ret; exact ⟨rfl, below_drewN hend _⟩)
end Go.Proofs.YtpepdkgkdbnakaaGreatDoor
