/- The reference's Int and ParsedOf: the walk. -/
import Derived.Test.YtlddeeagnlgciaaDoorTimeQ
import Derived.Test.YtlddeeagnlgciaaDoorTimeW
import Derived.Test.YtlddeeagnlgciaaDoorRows2
import Derived.Test.YtlddeeagnlgciaaDoorFill
import Derived.Lib.ItoaLen
import Derived.Lib.AtoiBound
import Derived.BigGuardPart
namespace Go.Proofs.YtlddeeagnlgciaaDoor
open Go.RowKit
set_option linter.unusedVariables false

/-- the error of a wrong numeral is there -/
def Ex (w : World) : Prop := ∃ tp p, w.var? Tryd.prog "strconv.ErrSyntax" = some #[.iface tp p]
theorem Ex.below {w w' : World} (h : Ex w) (hb : Below w.heap.size w w') : Ex w' := by
  obtain ⟨tp, p, h⟩ := h
  refine ⟨tp, p, ?_⟩
  unfold World.var? at h ⊢
  rcases hg : Program.globalNamed Tryd.prog "strconv.ErrSyntax" with _ | g
  · rw [hg] at h; cases h
  · rw [hg] at h
    simp only [Option.bind_some] at h ⊢
    have hlt : g < w.heap.size := by
      rcases Nat.lt_or_ge g w.heap.size with h' | h'
      · exact h'
      · rw [Array.getElem?_eq_none h'] at h; cases h
    rw [hb.block g hlt]
    exact h
theorem atoiX_c (s : ByteArray) (w : World) (hs : s.size ≤ 18) (hE : Ex w) : Calls Tryd.prog 63 #[.string s] w fun e w' => (∃ n, Lib.atoi s.data.toList = some n ∧ e = .returned (.tuple #[.int .i64 n, .nilIface]) ∧ Below w.heap.size w w') ∨ (Lib.atoi s.data.toList = none ∧ ∃ T N, e = .returned (.tuple #[.int .i64 0, .iface T (.pointer (some ⟨N, 0, none⟩))]) ∧ Below w.heap.size w w') := by
  rcases hA : Lib.atoi s.data.toList with _ | n
  · obtain ⟨tp, p, hv⟩ := hE
    refine (Tryd.strconv_Atoi_err_var s hs hA tp p w hv).mono ?_
    rintro e w' ⟨N, he, _, _, hb⟩
    exact .inr ⟨rfl, _, N, he, hb⟩
  · refine (Tryd.strconv_Atoi s n hs hA w).mono ?_
    rintro e w' ⟨he, q, rfl⟩
    exact .inl ⟨n, rfl, he, Lib.bytesWorld_below _ _ _⟩
theorem int_bd {l : List UInt8} {n : Int} (h : Lib.atoi l = some n) (hl : l.length ≤ 18) : -1000000000000000000 < n ∧ n < 1000000000000000000 := Lib.atoi_bound h hl
set_option maxHeartbeats 1600000 in
set_option maxRecDepth 100000 in
theorem intR_c (s : ByteArray) (w : World) (hs : s.size ≤ 18) (hT : Tb w) (hE : Ex w) : Calls Tryd.prog 62 #[.string s, .int .i64 3] w fun e w' => ∃ v, e = .returned (.tuple #[.int .i64 v, .bool (intP s.data.toList).isSome]) ∧ (∀ m, intP s.data.toList = some m → v = m) ∧ Below w.heap.size w w' := by
  have hts : (⟨(Lib.trimPrefix s.data.toList [45]).toArray⟩ : ByteArray).size ≤ 18 := by
    show (Lib.trimPrefix s.data.toList [45]).toArray.size ≤ 18
    rw [List.size_toArray]
    unfold Lib.trimPrefix
    have := Lib.size_eq s
    split
    · rw [List.length_drop]; omega
    · omega
  have hlt : (⟨(Lib.trimPrefix s.data.toList [45]).toArray⟩ : ByteArray).size = (Lib.trimPrefix s.data.toList [45]).length := by
    show (Lib.trimPrefix s.data.toList [45]).toArray.size = _
    rw [List.size_toArray]
  have f1 : ¬ ((1 ≤ (Lib.trimPrefix s.data.toList [45]).length ∧ (Lib.trimPrefix s.data.toList [45]).length ≤ 3) ∧ (Lib.trimPrefix s.data.toList [45]).all dig = true) → intP s.data.toList = none := fun h => by unfold intP; rw [if_neg h]
  have f2 : ∀ n, ((1 ≤ (Lib.trimPrefix s.data.toList [45]).length ∧ (Lib.trimPrefix s.data.toList [45]).length ≤ 3) ∧ (Lib.trimPrefix s.data.toList [45]).all dig = true) → Lib.atoi s.data.toList = some n → Lib.itoa n = s.data.toList → intP s.data.toList = some n := fun n h h2 h3 => by unfold intP; rw [if_pos h, h2]; simp only; rw [if_pos h3]
  have f3 : ∀ n, ((1 ≤ (Lib.trimPrefix s.data.toList [45]).length ∧ (Lib.trimPrefix s.data.toList [45]).length ≤ 3) ∧ (Lib.trimPrefix s.data.toList [45]).all dig = true) → Lib.atoi s.data.toList = some n → Lib.itoa n ≠ s.data.toList → intP s.data.toList = none := fun n h h2 h3 => by unfold intP; rw [if_pos h, h2]; simp only; rw [if_neg h3]
  have f4 : Lib.atoi s.data.toList = none → intP s.data.toList = none := fun h2 => by unfold intP; rw [h2]; simp
  generalize intP s.data.toList = IP at *
  have hTP := Lib.hid (Tryd.strings_TrimPrefix s ⟨#[45]⟩ w)
  rw [show (⟨#[45]⟩ : ByteArray).data.toList = [45] from rfl] at hTP
  have hA := trimD_all ⟨(Lib.trimPrefix s.data.toList [45]).toArray⟩
  rw [show (⟨(Lib.trimPrefix s.data.toList [45]).toArray⟩ : ByteArray).data.toList = Lib.trimPrefix s.data.toList [45] by simp] at hA
  rw [← hA, ← hlt] at f1 f2 f3
  have hTr := Lib.hid (fun W => trimD_c ⟨(Lib.trimPrefix s.data.toList [45]).toArray⟩ W (by omega))
  generalize (⟨(Lib.trimPrefix s.data.toList [45]).toArray⟩ : ByteArray) = t at *
  clear hA hlt
  rw [← ByteArray.toList_eq (trimD t)] at f1 f2 f3
  generalize trimD t = tr at *
  have hAt := Lib.hid (fun W h => atoiX_c s W hs h)
  have hsl : s.data.toList = s.toList := (ByteArray.toList_eq s).symm
  have hbd := fun n h => int_bd (l := s.data.toList) (n := n) h (by have := Lib.size_eq s; omega)
  have hIn := Lib.hid (fun W => in_c (t.size : Int) 1 3 W)
  by_cases h1 : 1 ≤ t.size ∧ t.size ≤ 3
  · have hd1 : (decide (1 ≤ (t.size : Int) ∧ (t.size : Int) ≤ 3)) = true := decide_eq_true (by omega)
    rw [hd1] at hIn
    cases h2 : tr.toList.isEmpty
    · obtain rfl := f1 (by rw [h2]; simp)
      clear f1 f2 f3 f4 hbd hd1
      go_enter Tryd.func62, Tryd.ntmps62
      go_wp2_with fail
      refine hTP.out.mono ?_; rintro e w' ⟨rfl, rfl⟩
      go_wp2_with fail
      refine (hIn.out _).mono ?_; rintro e w' ⟨rfl, rfl⟩
      go_wp2_with fail
      refine (hTr.out _).mono ?_; rintro e w1 ⟨rfl, B1⟩
      go_wp2
      go_ret2
      exact ⟨0, rfl, (fun m h => by cases h), B1⟩
    · have f2' := Lib.hid (fun n => f2 n ⟨h1, h2⟩)
      have f3' := Lib.hid (fun n => f3 n ⟨h1, h2⟩)
      have f4' := Lib.hid f4
      have hbd' := Lib.hid hbd
      clear f1 f2 f3 f4 hbd hd1
      go_enter Tryd.func62, Tryd.ntmps62
      go_wp2_with fail
      refine hTP.out.mono ?_; rintro e w' ⟨rfl, rfl⟩
      go_wp2_with fail
      refine (hIn.out _).mono ?_; rintro e w' ⟨rfl, rfl⟩
      go_wp2_with fail
      refine (hTr.out _).mono ?_; rintro e w1 ⟨rfl, B1⟩
      have hE1 := hE.below B1
      have hT1 := hT.below B1
      clear hE hT hTr hIn hTP
      go_wp2_with fail
      refine (hAt.out _ hE1).mono ?_; rintro e w2 (⟨n, hn, rfl, B2⟩ | ⟨hn, T, N, rfl, B2⟩)
      · have hT2 := hT1.below B2
        have B := below_next B1 B2
        obtain ⟨n0, n1⟩ := hbd'.out n hn
        have hit := Lib.hid (fun W h => itoa_c n W h (by omega) (by omega))
        have hEq : (itoaS n).toList = Lib.itoa n := by rw [ByteArray.toList_eq]; simp [itoaS]
        by_cases hq : Lib.itoa n = s.data.toList
        · obtain rfl := f2'.out n hn hq
          have hq2 : ((itoaS n).toList == s.toList) = true := by rw [hEq, ← hsl, hq]; simp
          have hq3 : (itoaS n).toList = s.toList := by rw [hEq, ← hsl, hq]
          clear hE1 hT1 B1 B2 hAt hbd' f2' f3' f4' hEq hq hn
          generalize itoaS n = I at *
          go_wp2_with fail
          refine (hit.out _ hT2).mono ?_; rintro e w3 ⟨rfl, B3⟩
          go_wp2
          go_ret2
          exact ⟨n, by first | rfl | simp [*], (fun m h => by injection h), below_next B B3⟩
        · obtain rfl := f3'.out n hn hq
          have hq3 : ¬ (itoaS n).toList = s.toList := by rw [hEq, ← hsl]; exact hq
          have hq2 : ((itoaS n).toList == s.toList) = false := by simpa using hq3
          clear hE1 hT1 B1 B2 hAt hbd' f2' f3' f4' hEq hq hn
          generalize itoaS n = I at *
          go_wp2_with fail
          refine (hit.out _ hT2).mono ?_; rintro e w3 ⟨rfl, B3⟩
          go_wp2
          go_ret2
          exact ⟨n, by first | rfl | simp [*], (fun m h => by cases h), below_next B B3⟩
      · have B := below_next B1 B2
        obtain rfl := f4'.out hn
        clear hE1 hT1 B1 B2 hAt hbd' f2' f3' f4' hn
        go_wp2
        go_ret2
        exact ⟨0, by first | rfl | simp [*], (fun m h => by cases h), B⟩
  · have hd1 : (decide (1 ≤ (t.size : Int) ∧ (t.size : Int) ≤ 3)) = false := decide_eq_false (by omega)
    rw [hd1] at hIn
    obtain rfl := f1 (by intro hc; exact h1 hc.1)
    clear f1 f2 f3 f4 hbd hd1
    go_enter Tryd.func62, Tryd.ntmps62
    go_wp2_with fail
    refine hTP.out.mono ?_; rintro e w' ⟨rfl, rfl⟩
    go_wp2_with fail
    refine (hIn.out _).mono ?_; rintro e w' ⟨rfl, rfl⟩
    go_wp2
    go_ret2
    exact ⟨0, rfl, (fun m h => by cases h), Below.refl _ _⟩
theorem int_bd3 {l : List UInt8} {m : Int} (h : intP l = some m) (h1 : 1 ≤ m) : m < 1000 := (num_bd ((int_num h1).1 h) (by omega)).2.1
theorem atoi_nn {l : List UInt8} {x : Int} (h : Lib.atoi l = some x) (hd : l.all dig = true) : 0 ≤ x := by
  rcases l with _ | ⟨b, r⟩
  · cases h
  · simp only [List.all_cons, Bool.and_eq_true] at hd
    rw [atoi_dig hd.1] at h
    cases hv : Lib.decFrom (b.toNat - 48) r with
    | none => rw [hv] at h; cases h
    | some v => rw [hv] at h; have : (v : Int) = x := by simpa using h
                omega
theorem atoi_bd2 {l : List UInt8} {h : Int} (ha : Lib.atoi l = some h) (hl : l.length = 2) (hd : l.all dig = true) : 0 ≤ h ∧ h < 100 := by
  rcases l with _ | ⟨a, _ | ⟨b, _ | ⟨c, l⟩⟩⟩
  · cases hl
  · cases hl
  · simp only [List.all_cons, Bool.and_eq_true] at hd
    rw [atoi_two hd.1 hd.2.1] at ha
    have h1 := of_decide_eq_true hd.1
    have h2 := of_decide_eq_true hd.2.1
    have := Option.some.inj ha
    omega
  · simp at hl
theorem pr_none1 {point colon : Bool} {mi se tail : List UInt8} (h : intP mi = none) : parsedR point colon mi se tail = (0, 9) := by
  unfold parsedR; rw [h]
  cases point <;> cases Lib.atoi se <;> cases Lib.atoi tail <;> rfl
theorem pr_none2 {point colon : Bool} {mi se tail : List UInt8} (h : Lib.atoi se = none) : parsedR point colon mi se tail = (0, 9) := by
  unfold parsedR; rw [h]
  cases point <;> cases intP mi <;> cases Lib.atoi tail <;> rfl
theorem pr_none3 {point colon : Bool} {mi se tail : List UInt8} (h : Lib.atoi tail = none) : parsedR point colon mi se tail = (0, 9) := by
  unfold parsedR; rw [h]
  cases point <;> cases intP mi <;> cases Lib.atoi se <;> rfl
set_option maxHeartbeats 3200000 in
set_option maxRecDepth 100000 in
theorem parsedOf_c (s : ByteArray) (w : World) (hs : s.size ≤ 18) (hM : Mx w) (hT : Tb w) (hE : Ex w) : Calls Tryd.prog 13 #[.string s] w fun e w' => e = .returned (.tuple #[.int .i64 (parseP s.data.toList).1, .int .i64 (parseP s.data.toList).2]) ∧ Below w.heap.size w w' := by
  have hC1 := Lib.hid (cut_c s 46 w hM (by omega))
  have l1 := cut_len 46 s.data.toList
  rw [parse_parts]
  have hsz := Lib.size_eq s
  generalize Lib.cut s.data.toList [46] = C1 at *
  obtain ⟨lf, rt, point⟩ := C1
  dsimp only at *
  have l2 := cut_len 58 lf
  have hC2 := Lib.hid (fun W h => cut_c ⟨lf.toArray⟩ 58 W h (by show lf.toArray.size ≤ 1000; rw [List.size_toArray]; omega))
  generalize hcc : Lib.cut lf [58] = C2 at *
  obtain ⟨mi, se, colon⟩ := C2
  dsimp only at *
  rw [← parsed_parts]
  have hsel : (if colon = true then se else lf).length ≤ 18 := by split <;> omega
  have hmil : (if colon = true then mi else [48]).length ≤ 18 := by
    split
    · omega
    · exact (by decide : ([48] : List UInt8).length ≤ 18)
  have hrtl : rt.length ≤ 18 := by omega
  clear hcc l1 l2 hsz
  generalize hMI : (if colon = true then mi else [48]) = MI at *
  generalize hSE : (if colon = true then se else lf) = SE at *
  have g0 : point = false → parsedR point colon MI SE rt = (0, 9) := fun h => by subst h; rfl
  have g1 : intP MI = none → parsedR point colon MI SE rt = (0, 9) := fun h => pr_none1 h
  have g2 : Lib.atoi SE = none → parsedR point colon MI SE rt = (0, 9) := fun h => pr_none2 h
  have g3 : Lib.atoi rt = none → parsedR point colon MI SE rt = (0, 9) := fun h => pr_none3 h
  have g4 : ∀ m x h, point = true → intP MI = some m → Lib.atoi SE = some x → Lib.atoi rt = some h → parsedR point colon MI SE rt = restR colon m x h SE rt := fun m x h h0 h1 h2 h3 => by unfold parsedR; rw [h0, h1, h2, h3]; rfl
  generalize parsedR point colon MI SE rt = ANS at *
  obtain ⟨A1, A2⟩ := ANS
  dsimp only
  have g0' := Lib.hid g0
  have g1' := Lib.hid g1
  have g2' := Lib.hid g2
  have g3' := Lib.hid g3
  have g4' := Lib.hid g4
  clear g0 g1 g2 g3 g4
  go_enter Tryd.func13, Tryd.ntmps13
  go_wp2_with fail
  refine hC1.out.mono ?_; rintro e w1 ⟨rfl, B1⟩
  have hM1 := hM.below B1
  have hT1 := hT.below B1
  have hE1 := hE.below B1
  clear hM hT hE hC1
  go_wp2_with fail
  refine (hC2.out _ hM1).mono ?_; rintro e w2 ⟨rfl, B2⟩
  have hT2 := hT1.below B2
  have hE2 := hE1.below B2
  replace B2 := below_next B1 B2
  clear hM1 hT1 hE1 B1 hC2
  go_upto_if 31 with (fail)
  go_cut [7, 8] (fun s7 s8 wx => s7 = .string ⟨MI.toArray⟩ ∧ s8 = .string ⟨SE.toArray⟩ ∧ Below w.heap.size w wx ∧ Tb wx ∧ Ex wx)
  case first =>
    cases colon
    · obtain rfl : [48] = MI := hMI
      obtain rfl : lf = SE := hSE
      go_wp2
      go_meet
      case rel => exact ⟨rfl, rfl, B2, hT2, hE2⟩
    · obtain rfl : mi = MI := hMI
      obtain rfl : se = SE := hSE
      go_wp2
      go_meet
      case rel => exact ⟨rfl, rfl, B2, hT2, hE2⟩
  case rest =>
    clear hT2 hE2 B2
    rename World => wx
    obtain ⟨rfl, rfl, B3, hT3, hE3⟩ := hcut
    clear hMI hSE
    have hI := Lib.hid (fun W hT hE => intR_c ⟨MI.toArray⟩ W (by show MI.toArray.size ≤ 18; rw [List.size_toArray]; exact hmil) hT hE)
    have hA2 := Lib.hid (fun W hE => atoiX_c ⟨SE.toArray⟩ W (by show SE.toArray.size ≤ 18; rw [List.size_toArray]; exact hsel) hE)
    have hA3 := Lib.hid (fun W hE => atoiX_c ⟨rt.toArray⟩ W (by show rt.toArray.size ≤ 18; rw [List.size_toArray]; exact hrtl) hE)
    have e1 : ∀ l : List UInt8, (⟨l.toArray⟩ : ByteArray).data.toList = l := fun l => by simp
    have hcat := trimD_all (⟨rt.toArray⟩ ++ ⟨SE.toArray⟩)
    rw [str_app] at hcat
    have hTr := Lib.hid (fun W => trimD_c (⟨rt.toArray⟩ ++ ⟨SE.toArray⟩) W (by rw [str_app]; show (rt ++ SE).toArray.size ≤ 1000; rw [List.size_toArray, List.length_append]; omega))
    rw [str_app, ← str_app] at hTr
    have zr : (⟨rt.toArray⟩ : ByteArray).size = rt.length := by show rt.toArray.size = _; rw [List.size_toArray]
    have zs : (⟨SE.toArray⟩ : ByteArray).size = SE.length := by show SE.toArray.size = _; rw [List.size_toArray]
    have hbI := fun m h => int_bd3 (l := MI) (m := m) h
    have hbS := fun x h => atoi_nn (l := SE) (x := x) h
    have hbS2 := fun x h => int_bd (l := SE) (n := x) h hsel
    have hbR := fun x h => atoi_bd2 (l := rt) (h := x) h
    dsimp only at hI hA2 hA3 hcat
    try simp only [List.toList_toArray] at hI hA2 hA3 hcat
    rw [← str_app] at hcat
    have hcat2 : (trimD (⟨rt.toArray⟩ ++ ⟨SE.toArray⟩)).toList.isEmpty = (rt ++ SE).all dig := by rw [ByteArray.toList_eq, ← hcat]
    have hSt : (⟨SE.toArray⟩ : ByteArray).toList = SE := by rw [ByteArray.toList_eq]
    generalize (⟨rt.toArray⟩ : ByteArray) = RT at *
    generalize (⟨SE.toArray⟩ : ByteArray) = SS at *
    generalize (⟨MI.toArray⟩ : ByteArray) = MS at *
    have ycat : ¬ (9223372036854775807 < RT.size + SS.size) := by omega
    have ycat2 : ¬ (RT.size + SS.size > 9223372036854775807) := by omega
    generalize trimD (RT ++ SS) = tr at *
    clear hcat e1
    generalize hIP : intP MI = IP at *
    generalize hAS : Lib.atoi SE = AS at *
    generalize hAR : Lib.atoi rt = AR at *
    have hbI' := Lib.hid hbI
    have hbS' := Lib.hid hbS
    have hbS2' := Lib.hid hbS2
    have hbR' := Lib.hid hbR
    have hcat' := Lib.hid hcat2
    have hSt' := Lib.hid hSt
    have zr' := Lib.hid zr
    have zs' := Lib.hid zs
    clear hIP hAS hAR hbI hbS hbS2 hbR hcat2 hSt zr zs hsel hmil hrtl
    go_wp2_with fail
    refine (hI.out _ hT3 hE3).mono ?_; rintro e w4 ⟨v, rfl, hv, B4⟩
    have hT4 := hT3.below B4
    have hE4 := hE3.below B4
    replace B4 := below_next B3 B4
    clear hT3 hE3 B3 hI
    go_wp2_with fail
    refine (hA2.out _ hE4).mono ?_; rintro e w5 h5
    obtain ⟨x, er1, ers, rfl, hx1, B5⟩ : ∃ (x : Int) (er1 : Value) (ok1 : Bool), e = .returned (.tuple #[.int .i64 x, er1]) ∧ ((AS = some x ∧ er1 = .nilIface) ∨ (AS = none ∧ ∃ T N, er1 = .iface T (.pointer (some ⟨N, 0, none⟩)))) ∧ Below w4.heap.size w4 w5 := by
      rcases h5 with ⟨n, hn, he, hb⟩ | ⟨hn, T, N, he, hb⟩
      · exact ⟨n, _, true, he, .inl ⟨hn, rfl⟩, hb⟩
      · exact ⟨0, _, true, he, .inr ⟨hn, T, N, rfl⟩, hb⟩
    have hx1' := Lib.hid hx1
    have hT5 := hT4.below B5
    have hE5 := hE4.below B5
    replace B5 := below_next B4 B5
    clear h5 hx1 hT4 hE4 B4 hA2
    go_wp2_with fail
    refine (hA3.out _ hE5).mono ?_; rintro e w6 h6
    obtain ⟨h, er2, ers2, rfl, hx2, B6⟩ : ∃ (x : Int) (er1 : Value) (ok1 : Bool), e = .returned (.tuple #[.int .i64 x, er1]) ∧ ((AR = some x ∧ er1 = .nilIface) ∨ (AR = none ∧ ∃ T N, er1 = .iface T (.pointer (some ⟨N, 0, none⟩)))) ∧ Below w5.heap.size w5 w6 := by
      rcases h6 with ⟨n, hn, he, hb⟩ | ⟨hn, T, N, he, hb⟩
      · exact ⟨n, _, true, he, .inl ⟨hn, rfl⟩, hb⟩
      · exact ⟨0, _, true, he, .inr ⟨hn, T, N, rfl⟩, hb⟩
    have hx2' := Lib.hid hx2
    have hT6 := hT5.below B6
    replace B6 := below_next B5 B6
    clear h6 hx2 hT5 hE5 B5 hA3
    have hz : ∀ B : Prop, B → (A1, A2) = ((0, 9) : Int × Int) → Ending.returned (.tuple #[.int .i64 0, .int .i64 9]) = Ending.returned (.tuple #[.int .i64 A1, .int .i64 A2]) ∧ B := fun B h e => by injection e with e1 e2; subst e1 e2; exact ⟨rfl, h⟩
    cases point
    · go_wp2
      go_ret2
      exact hz _ B6 (g0'.out (by first | rfl | trivial))
    rcases IP with _ | m
    · go_wp2
      go_ret2
      exact hz _ B6 (g1'.out (by first | rfl | trivial))
    obtain rfl := hv m rfl
    clear hv
    rcases hx1'.out.symm with ⟨hAS, T, N, rfl⟩ | ⟨hAS, rfl⟩
    · clear hx1' hx2'
      by_cases hm : v < 0
      · go_wp2
        go_ret2
        exact hz _ B6 (g2'.out hAS)
      · go_wp2
        all_goals (go_ret2; exact hz _ B6 (g2'.out hAS))
    rcases hx2'.out.symm with ⟨hAR, T, N, rfl⟩ | ⟨hAR, rfl⟩
    · clear hx1' hx2' hAS
      by_cases hm : v < 0
      · go_wp2
        go_ret2
        exact hz _ B6 (g3'.out hAR)
      · go_wp2
        all_goals (go_ret2; exact hz _ B6 (g3'.out hAR))
    have hg := Lib.hid (g4'.out v x h rfl rfl hAS hAR)
    have hrest := Lib.hid (fun hc => hg.out.trans (rest_no (colon := colon) (m := v) (x := x) (h := h) (se := SE) (tail := rt) hc))
    have hAS' := Lib.hid hAS
    have hAR' := Lib.hid hAR
    clear hx1' hx2' hAS hAR g0' g1' g2' g3' g4'
    by_cases hm : v < 0
    · go_wp2
      go_ret2
      exact hz _ B6 (hrest.out (.inl hm))
    by_cases hl : ¬ RT.size = 2
    · have hl2 : ((RT.size : Int) != 2) = true := by simpa using (by omega : ¬ (RT.size : Int) = 2)
      have hrr := Lib.hid (hrest.out (.inr (.inl (by rw [← zr'.out]; exact hl))))
      go_wp2
      all_goals (go_ret2; exact hz _ B6 hrr.out)
    have hl1 : RT.size = 2 := by omega
    clear hl
    cases hq : tr.toList.isEmpty
    · go_wp2_with fail
      · exfalso; omega
      refine (hTr.out _).mono ?_; rintro e w7 ⟨rfl, B7⟩
      replace B7 := below_next B6 B7
      go_wp2
      go_ret2
      exact hz _ B7 (hrest.out (.inr (.inr (.inl (by rw [← hcat'.out, hq])))))
    go_wp2_with fail
    · exfalso; omega
    refine (hTr.out _).mono ?_; rintro e w7 ⟨rfl, B7⟩
    have hT7 := hT6.below B7
    replace B7 := below_next B6 B7
    clear hT6 B6 hTr
    have hd : rt.all dig = true ∧ SE.all dig = true := by
      have h1 := hcat'.out
      rw [hq, List.all_append] at h1
      simpa using h1.symm
    have x0 := hbS'.out x hAS'.out hd.2
    have x1 := hbS2'.out x hAS'.out
    have hh := hbR'.out h hAR'.out (by rw [← zr'.out]; exact hl1) hd.1
    have v1 : v < 1000 := by
      rcases Int.lt_or_le v 1 with h1 | h1
      · omega
      · exact hbI'.out v rfl h1
    have v0 : 0 ≤ v := by omega
    have hd' := Lib.hid hd
    have hl1' := Lib.hid hl1
    have hm' := Lib.hid hm
    clear hbS' hbS2' hbR' hbI' hcat' hd hl1 hm
    cases colon
    · have hit := Lib.hid (itoa_c x w7 hT7 (by omega) (by omega))
      have hIt : (itoaS x).toList = Lib.itoa x := by rw [ByteArray.toList_eq]; simp [itoaS]
      by_cases hq : SE = Lib.itoa x
      · have hq3 : SS.toList = (itoaS x).toList := by rw [hIt, hSt'.out]; exact hq
        have hqq := Lib.hid hq
        clear hIt hq
        generalize itoaS x = I at *
        go_wp2_with fail
        refine hit.out.mono ?_; rintro e w8 ⟨rfl, B8⟩
        replace B8 := below_next B7 B8
        by_cases hx9 : 59 < x
        · have hrr := Lib.hid (hrest.out (.inr (.inr (.inr (.inr (.inr hx9))))))
          go_wp2
          go_ret2
          exact hz _ B8 hrr.out
        · have hRR : Hid ((A1, A2) = finT v x h) := Lib.hid (by
            rw [hg.out]; unfold restR
            rw [if_neg, if_neg]
            · rintro (h1 | h1 | h1)
              · cases h1.1
              · exact h1.2 hqq.out
              · exact hx9 h1
            · rintro (h1 | h1 | h1)
              · have := hm'.out; omega
              · exact h1 (by rw [← zr'.out]; exact hl1'.out)
              · rw [List.all_append, hd'.out.1, hd'.out.2] at h1; cases h1)
          clear hrest hg
          have hx0 : ¬ 59 < x := hx9
          have k0 : IntKind.i64.wrap (v * 6000) = v * 6000 := IntWalk.i64_in _ (by omega)
          have k1 : IntKind.i64.wrap (x * 100) = x * 100 := IntWalk.i64_in _ (by omega)
          have k2 : IntKind.i64.wrap (v * 6000 + x * 100) = v * 6000 + x * 100 := IntWalk.i64_in _ (by omega)
          have k3 : IntKind.i64.wrap (v * 6000 + x * 100 + h) = v * 6000 + x * 100 + h := IntWalk.i64_in _ (by omega)
          go_wp2_with fail
          refine (timeFault_c _ _).mono ?_; rintro e w' ⟨rfl, rfl⟩
          by_cases hTm : 1 ≤ v * 6000 + x * 100 + h ∧ v * 6000 + x * 100 + h ≤ 360000
          · have hte : timeErr (v * 6000 + x * 100 + h) = 0 := by unfold timeErr; rw [if_pos hTm]
            have hF : (A1, A2) = (v * 6000 + x * 100 + h, 0) := by
              rw [hRR.out]; unfold finT; rw [if_pos (by omega)]; congr 1; omega
            injection hF with a1 a2
            subst a1 a2
            rw [hte]
            clear hte hTm
            go_wp2
            go_ret2
            exact ⟨rfl, B8⟩
          · have hte : timeErr (v * 6000 + x * 100 + h) = 1 := by unfold timeErr; rw [if_neg hTm]
            have hF : (A1, A2) = (0, 1) := by
              rw [hRR.out]; unfold finT; rw [if_neg (by omega)]
            injection hF with a1 a2
            subst a1 a2
            rw [hte]
            clear hte hTm
            go_wp2
            go_ret2
            exact ⟨rfl, B8⟩
      · have hq3 : ¬ SS.toList = (itoaS x).toList := by rw [hIt, hSt'.out]; exact hq
        have hq4 : (SS.toList == (itoaS x).toList) = false := beq_eq_false_iff_ne.2 hq3
        have hrr := Lib.hid (hrest.out (.inr (.inr (.inr (.inr (.inl ⟨rfl, hq⟩))))))
        clear hIt hq hq3
        generalize itoaS x = I at *
        go_wp2_with fail
        refine hit.out.mono ?_; rintro e w8 ⟨rfl, B8⟩
        replace B8 := below_next B7 B8
        go_wp2
        go_ret2
        exact hz _ B8 hrr.out
    · by_cases hv0 : v = 0
      · have hrr := Lib.hid (hrest.out (.inr (.inr (.inr (.inl ⟨rfl, .inl hv0⟩)))))
        have hvb : (v == 0) = true := by simpa using hv0
        clear hv0 hrest hg
        go_wp2
        all_goals first | (exfalso; omega) | (go_ret2; exact hz _ B7 hrr.out)
      · have hvb : (v == 0) = false := beq_eq_false_iff_ne.2 hv0
        have hv0' := Lib.hid hv0
        clear hv0
        by_cases hs2 : SS.size = 2
        · have hs2' := Lib.hid hs2
          by_cases hx9 : 59 < x
          · have hrr := Lib.hid (hrest.out (.inr (.inr (.inr (.inr (.inr hx9))))))
            go_wp2
            go_ret2
            exact hz _ B7 hrr.out
          · have hRR : Hid ((A1, A2) = finT v x h) := Lib.hid (by
              rw [hg.out]; unfold restR
              rw [if_neg, if_neg]
              · rintro (h1 | h1 | h1)
                · rcases h1.2 with h2 | h2
                  · exact hv0'.out h2
                  · exact h2 (by rw [← zs'.out]; exact hs2'.out)
                · cases h1.1
                · exact hx9 h1
              · rintro (h1 | h1 | h1)
                · have := hm'.out; omega
                · exact h1 (by rw [← zr'.out]; exact hl1'.out)
                · rw [List.all_append, hd'.out.1, hd'.out.2] at h1; cases h1)
            clear hrest hg
            have hx0 : ¬ 59 < x := hx9
            have k0 : IntKind.i64.wrap (v * 6000) = v * 6000 := IntWalk.i64_in _ (by omega)
            have k1 : IntKind.i64.wrap (x * 100) = x * 100 := IntWalk.i64_in _ (by omega)
            have k2 : IntKind.i64.wrap (v * 6000 + x * 100) = v * 6000 + x * 100 := IntWalk.i64_in _ (by omega)
            have k3 : IntKind.i64.wrap (v * 6000 + x * 100 + h) = v * 6000 + x * 100 + h := IntWalk.i64_in _ (by omega)
            go_wp2_with fail
            refine (timeFault_c _ _).mono ?_; rintro e w' ⟨rfl, rfl⟩
            by_cases hTm : 1 ≤ v * 6000 + x * 100 + h ∧ v * 6000 + x * 100 + h ≤ 360000
            · have hte : timeErr (v * 6000 + x * 100 + h) = 0 := by unfold timeErr; rw [if_pos hTm]
              have hF : (A1, A2) = (v * 6000 + x * 100 + h, 0) := by
                rw [hRR.out]; unfold finT; rw [if_pos (by omega)]; congr 1; omega
              injection hF with a1 a2
              subst a1 a2
              rw [hte]
              clear hte hTm
              go_wp2
              go_ret2
              exact ⟨rfl, B7⟩
            · have hte : timeErr (v * 6000 + x * 100 + h) = 1 := by unfold timeErr; rw [if_neg hTm]
              have hF : (A1, A2) = (0, 1) := by
                rw [hRR.out]; unfold finT; rw [if_neg (by omega)]
              injection hF with a1 a2
              subst a1 a2
              rw [hte]
              clear hte hTm
              go_wp2
              go_ret2
              exact ⟨rfl, B7⟩
        · have hs3 : ((SS.size : Int) != 2) = true := by simpa using (by omega : ¬ (SS.size : Int) = 2)
          have hrr := Lib.hid (hrest.out (.inr (.inr (.inr (.inl ⟨rfl, .inr (by rw [← zs'.out]; exact hs2)⟩)))))
          go_wp2
          go_ret2
          exact hz _ B7 hrr.out
end Go.Proofs.YtlddeeagnlgciaaDoor
