import Derived.Test.YtklggnglaeagpaaGreatDoorTxtN
import Derived.Deep.DeepCutAuto
import Derived.Deep.RegionHeld3
import Derived.BigRegion
/- tumbref1.ParsedOf of long strings: no time; strconv.Atoi of any string. -/
namespace Go.Proofs.YtklggnglaeagpaaGreatDoor
open Go.RowKit Go.Lib
set_option linter.unusedVariables false

theorem itoa_len4 {m : Int} (h : m.natAbs < 10 ^ 3) : (itoa m).length ≤ 4 := by
  have h1 := dd_le (u := m.natAbs) (k := 3) (by decide) h
  unfold itoa
  split
  · simp only [List.length_cons]
    have : (-m).toNat = m.natAbs := by omega
    first | (rw [this]; omega) | omega
  · have : m.toNat = m.natAbs := by omega
    rw [this]; omega
theorem numP_len {l : List UInt8} {most : Nat} {n : Int} (h : numP l most = some n) (hm : most ≤ 3) : l.length ≤ 4 := by
  have h1 := num_bdK h
  have h2 := (num_iff.1 h).1
  rw [← h2]
  refine itoa_len4 (Nat.lt_of_lt_of_le h1 ?_)
  exact Nat.pow_le_pow_right (by decide) hm
theorem parseP_long {l : List UInt8} (h : 18 < l.length) : parseP l = (0, 9) := by
  unfold parseP
  split
  · rename_i hp
    rcases cut_cases 46 l with ⟨_, e⟩ | ⟨a, b, e1, _, e⟩
    · rw [e] at hp; cases hp
    · rw [e]
      dsimp only
      have hl : l.length = a.length + 1 + b.length := by rw [e1, List.length_append, List.length_cons]; omega
      cases hb : pairP b with
      | none => rfl
      | some hh =>
        have hb2 := (pair_some hb).1
        dsimp only
        split
        · rename_i hc
          rcases cut_cases 58 a with ⟨_, e2⟩ | ⟨mi, se, e3, _, e2⟩
          · rw [e2] at hc; cases hc
          · rw [e2]
            have hl2 : a.length = mi.length + 1 + se.length := by rw [e3, List.length_append, List.length_cons]; omega
            unfold longP
            dsimp only
            cases hm : numP mi 3 with
            | none => rfl
            | some m =>
              cases hs : pairP se with
              | none => rfl
              | some n =>
                exfalso
                have := numP_len hm (by omega)
                have := (pair_some hs).1
                omega
        · unfold shortP
          cases hm : numP a 2 with
          | none => rfl
          | some m =>
            exfalso
            have := numP_len hm (by omega)
            omega
  · rfl
theorem intP_len {l : List UInt8} {m : Int} (h : intP l = some m) : l.length ≤ 4 := by
  unfold intP at h
  split at h
  · rename_i h1
    have h2 := h1.1.2
    unfold trimPrefix at h2
    split at h2
    · rw [List.length_drop] at h2
      have : ([45] : List UInt8).length = 1 := rfl
      omega
    · omega
  · cases h
theorem itoa_digB {x : Int} (h : (itoa x).all dig = true) : 0 ≤ x := by
  rcases Int.lt_or_le x 0 with h1 | h1
  · exfalso
    unfold itoa at h
    rw [if_pos h1] at h
    simp only [List.all_cons, Bool.and_eq_true] at h
    exact absurd h.1 (by decide)
  · exact h1
theorem itoa_big {x : Int} (h : (itoa x).all dig = true) (hl : 4 < (itoa x).length) : 59 < x := by
  have h0 := itoa_digB h
  rcases Int.lt_or_le 59 x with h1 | h1
  · exact h1
  · exfalso
    have := itoa_len4 (m := x) (by have e : (10 : Nat) ^ 3 = 1000 := rfl; omega)
    omega
theorem trimDB_c (s : ByteArray) (w : World) (hs : s.size ≤ 2000000) : Calls Tryz.prog 224 #[.string s, .string ⟨#[48, 49, 50, 51, 52, 53, 54, 55, 56, 57]⟩] w
    fun e w' => e = .returned (.string (trimD s)) ∧ Below w.heap.size w w' :=
  Any.strings_Trim_laid Tryz.lays160 (by kernel_rfl) s ⟨#[48, 49, 50, 51, 52, 53, 54, 55, 56, 57]⟩ w (by omega) (by decide) (ascii_of_all (by decide))
def Er (w : World) : Prop := ∃ tp p, w.var? Tryz.prog "strconv.ErrRange" = some #[.iface tp p]
theorem Er.below {w w' : World} (h : Er w) (hb : Below w.heap.size w w') : Er w' := by
  obtain ⟨tp, p, h⟩ := h
  refine ⟨tp, p, ?_⟩
  unfold World.var? at h ⊢
  rcases hg : Program.globalNamed Tryz.prog "strconv.ErrRange" with _ | g
  · rw [hg] at h; cases h
  · rw [hg] at h
    simp only [Option.bind_some] at h ⊢
    have hlt : g < w.heap.size := by
      rcases Nat.lt_or_ge g w.heap.size with h' | h'
      · exact h'
      · rw [Array.getElem?_eq_none h'] at h; cases h
    rw [hb.block g hlt]
    exact h
theorem atoiAny_c (s : ByteArray) (w : World) (hs : s.size ≤ 900000) (hE : Ex w) (hR : Er w) : Calls Tryz.prog 287 #[.string s] w fun e w' => Below w.heap.size w w' ∧ ((∃ n : Int, (-9223372036854775808 ≤ n ∧ n ≤ 9223372036854775807) ∧ e = .returned (.tuple #[.int .i64 n, .nilIface])) ∨ ∃ (x : Int) (T : TypeId) (N : Nat), e = .returned (.tuple #[.int .i64 x, .iface T (.pointer (some ⟨N, 0, none⟩))])) := by
  cases h : Lib.atoiAll s.data.toList
  · rename_i v
    refine (Tryz.strconv_Atoi_ok s (by omega) v h w).mono ?_
    rintro e w' ⟨he, hw⟩
    refine ⟨?_, .inl ⟨v, Lib.atoiAll_bounds h, he⟩⟩
    rcases hw with rfl | ⟨t, rfl⟩
    · exact Below.refl _ _
    · exact Lib.bytesWorld_below _ _ _
  · obtain ⟨tp, p, hv⟩ := hE
    refine (Any.strconv_Atoi_syntax_var Tryz.laysC172 s (by omega) h tp p w hv).mono ?_
    rintro e w' ⟨N, he, _, _, hb⟩
    exact ⟨hb, .inr ⟨_, _, N, he⟩⟩
  · obtain ⟨tp, p, hv⟩ := hR
    refine (Tryz.strconv_Atoi_range_var s (by omega) h tp p w hv).mono ?_
    rintro e w' ⟨N, he, _, _, hb⟩
    exact ⟨hb, .inr ⟨_, _, N, he⟩⟩
set_option maxRecDepth 100000 in
theorem intBig_c (s : ByteArray) (w : World) (hT : Tb w) (hE : Ex w) : Calls Tryz.prog 268 #[.string s, .int .i64 3] w fun e w' => ∃ v, e = .returned (.tuple #[.int .i64 v, .bool (intP s.data.toList).isSome]) ∧ (∀ m, intP s.data.toList = some m → v = m) ∧ Below w.heap.size w w' := by
  by_cases hs : s.size ≤ 18
  · exact intR_c s w hs hT hE
  · have hN : intP s.data.toList = none := by
      cases h : intP s.data.toList with
      | none => rfl
      | some m => have := intP_len h; have := Lib.size_eq s; omega
    rw [hN]
    have hTP := Lib.hid (Tryz.strings_TrimPrefix s ⟨#[45]⟩ w)
    rw [show (⟨#[45]⟩ : ByteArray).data.toList = [45] from rfl] at hTP
    have ht : ¬ ((⟨(Lib.trimPrefix s.data.toList [45]).toArray⟩ : ByteArray).size ≤ 3) := by
      show ¬ ((Lib.trimPrefix s.data.toList [45]).toArray.size ≤ 3)
      rw [List.size_toArray]
      have := Lib.size_eq s
      unfold Lib.trimPrefix
      split
      · rw [List.length_drop]
        have : ([45] : List UInt8).length = 1 := rfl
        omega
      · omega
    generalize (⟨(Lib.trimPrefix s.data.toList [45]).toArray⟩ : ByteArray) = t at *
    have hIn := Lib.hid (fun W => in_c (t.size : Int) 1 3 W)
    have hd1 : (decide (1 ≤ (t.size : Int) ∧ (t.size : Int) ≤ 3)) = false := decide_eq_false (by omega)
    rw [hd1] at hIn
    clear hd1 ht hN hT hE
    go_enter Tryz.func268, Tryz.ntmps268
    go_wp2_with fail
    refine hTP.out.mono ?_; rintro e w' ⟨rfl, rfl⟩
    go_wp2_with fail
    refine (hIn.out _).mono ?_; rintro e w' ⟨rfl, rfl⟩
    go_wp2
    go_ret2
    exact ⟨0, rfl, (fun m h => by cases h), Below.refl _ _⟩
theorem parsed_key {point colon : Bool} {lf rt mi se : List UInt8} {N : Nat} (hN : 18 < N) (h1 : point = true → N = lf.length + 1 + rt.length) (h2 : colon = true → lf.length = mi.length + 1 + se.length) (hp : point = true) {m : Int} (hm : intP (if colon = true then mi else [48]) = some m) (hr : rt.length = 2) :
    (colon = true → (if colon = true then se else lf).length ≠ 2) ∧ (colon = false → ∀ x, (if colon = true then se else lf) = itoa x → (if colon = true then se else lf).all dig = true → 59 < x) := by
  have g1 := h1 hp
  refine ⟨fun hc => ?_, fun hc x e hd => ?_⟩
  · subst hc
    have g2 := h2 rfl
    have := intP_len hm
    simp only [if_true] at *
    omega
  · subst hc
    simp only [Bool.false_eq_true, if_false] at *
    rw [e] at hd
    refine itoa_big hd ?_
    rw [← e]; omega
set_option maxHeartbeats 3200000 in
set_option maxRecDepth 100000 in
theorem parsedBig_c (s : ByteArray) (w : World) (hs : 18 < s.size) (hs2 : s.size ≤ 900000) (hM : Mx w) (hT : Tb w) (hE : Ex w) (hR : Er w) : Calls Tryz.prog 221 #[.string s] w fun e w' => e = .returned (.tuple #[.int .i64 0, .int .i64 9]) ∧ Below w.heap.size w w' := by
  have hC1 := Lib.hid (cutM_c s 46 w hM hs2)
  have l1 := cut_cases 46 s.data.toList
  have hsz := Lib.size_eq s
  generalize Lib.cut s.data.toList [46] = C1 at *
  obtain ⟨lf, rt, point⟩ := C1
  dsimp only at *
  have f1 : point = true → s.size = lf.length + 1 + rt.length := fun hp => by
    rcases l1 with ⟨_, e⟩ | ⟨a, b, e1, _, e⟩
    · injection e with _ e; injection e with _ e; rw [hp] at e; cases e
    · injection e with e2 e; injection e with e3 e
      rw [hsz, e1, List.length_append, List.length_cons, e2, e3]; omega
  have f1b : lf.length ≤ s.size ∧ rt.length ≤ s.size := by
    rcases l1 with ⟨_, e⟩ | ⟨a, b, e1, _, e⟩
    · injection e with e2 e; injection e with e3 e; rw [e2, e3, hsz]; simp
    · injection e with e2 e; injection e with e3 e
      rw [e2, e3, hsz, e1, List.length_append, List.length_cons]; omega
  have hC2 := Lib.hid (fun W h => cutM_c ⟨lf.toArray⟩ 58 W h (by show lf.toArray.size ≤ 900000; rw [List.size_toArray]; omega))
  have l2 := cut_cases 58 lf
  dsimp only at hC2
  try simp only [List.toList_toArray] at hC2
  generalize hcc : Lib.cut lf [58] = C2 at *
  obtain ⟨mi, se, colon⟩ := C2
  dsimp only at *
  have f2 : colon = true → lf.length = mi.length + 1 + se.length := fun hp => by
    rcases l2 with ⟨_, e⟩ | ⟨a, b, e1, _, e⟩
    · injection e with _ e; injection e with _ e; rw [hp] at e; cases e
    · injection e with e2 e; injection e with e3 e
      rw [e1, List.length_append, List.length_cons, e2, e3]; omega
  have f2b : se.length ≤ lf.length ∧ mi.length ≤ lf.length := by
    rcases l2 with ⟨_, e⟩ | ⟨a, b, e1, _, e⟩
    · injection e with e2 e; injection e with e3 e; rw [e2, e3]; simp
    · injection e with e2 e; injection e with e3 e
      rw [e2, e3, e1, List.length_append, List.length_cons]; omega
  have hsel : (if colon = true then se else lf).length ≤ 900000 := by split <;> omega
  have hrtl : rt.length ≤ 900000 := by omega
  have hF := Lib.hid (fun (hp : point = true) m hm hr => parsed_key (m := m) hs f1 f2 hp hm hr)
  clear hcc l1 l2 hsz f1 f2 f1b f2b hs hs2
  generalize hMI : (if colon = true then mi else [48]) = MI at *
  generalize hSE : (if colon = true then se else lf) = SE at *
  have hI := Lib.hid (fun W hT hE => intBig_c ⟨MI.toArray⟩ W hT hE)
  have hA2 := Lib.hid (fun W hE hR => atoiAny_c ⟨SE.toArray⟩ W (by show SE.toArray.size ≤ 900000; rw [List.size_toArray]; exact hsel) hE hR)
  have hA3 := Lib.hid (fun W hE hR => atoiAny_c ⟨rt.toArray⟩ W (by show rt.toArray.size ≤ 900000; rw [List.size_toArray]; exact hrtl) hE hR)
  have hcat := trimD_all (⟨rt.toArray⟩ ++ ⟨SE.toArray⟩)
  rw [str_app] at hcat
  have hTr := Lib.hid (fun W => trimDB_c (⟨rt.toArray⟩ ++ ⟨SE.toArray⟩) W (by rw [str_app]; show (rt ++ SE).toArray.size ≤ 2000000; rw [List.size_toArray, List.length_append]; omega))
  rw [str_app, ← str_app] at hTr
  have zr : (⟨rt.toArray⟩ : ByteArray).size = rt.length := by show rt.toArray.size = _; rw [List.size_toArray]
  have zs : (⟨SE.toArray⟩ : ByteArray).size = SE.length := by show SE.toArray.size = _; rw [List.size_toArray]
  dsimp only at hI hcat
  try simp only [List.toList_toArray] at hI hcat
  rw [← str_app] at hcat
  have hcat2 : (trimD (⟨rt.toArray⟩ ++ ⟨SE.toArray⟩)).toList.isEmpty = (rt ++ SE).all dig := by rw [ByteArray.toList_eq, ← hcat]
  have hSt : (⟨SE.toArray⟩ : ByteArray).toList = SE := by rw [ByteArray.toList_eq]
  go_enter Tryz.func221, Tryz.ntmps221
  go_wp2_with fail
  refine hC1.out.mono ?_; rintro e w1 ⟨rfl, B1⟩
  have hM1 := hM.below B1
  have hT1 := hT.below B1
  have hE1 := hE.below B1
  have hR1 := hR.below B1
  clear hM hT hE hR hC1
  go_wp2_with fail
  refine (hC2.out _ hM1).mono ?_; rintro e w2 ⟨rfl, B2⟩
  have hT2 := hT1.below B2
  have hE2 := hE1.below B2
  have hR2 := hR1.below B2
  replace B2 := below_next B1 B2
  clear hM1 hT1 hE1 hR1 B1 hC2
  go_upto_if 31 with (fail)
  go_cut [7, 8] (fun s7 s8 wx => s7 = .string ⟨MI.toArray⟩ ∧ s8 = .string ⟨SE.toArray⟩ ∧ Below w.heap.size w wx ∧ Tb wx ∧ Ex wx ∧ Er wx)
  case first =>
    cases colon
    · obtain rfl : [48] = MI := hMI
      obtain rfl : lf = SE := hSE
      go_wp2
      go_meet
      case rel => exact ⟨rfl, rfl, B2, hT2, hE2, hR2⟩
    · obtain rfl : mi = MI := hMI
      obtain rfl : se = SE := hSE
      go_wp2
      go_meet
      case rel => exact ⟨rfl, rfl, B2, hT2, hE2, hR2⟩
  case rest =>
    clear hT2 hE2 B2 hR2
    rename World => wx
    obtain ⟨rfl, rfl, B3, hT3, hE3, hR3⟩ := hcut
    clear hMI hSE
    generalize (⟨rt.toArray⟩ : ByteArray) = RT at *
    generalize (⟨SE.toArray⟩ : ByteArray) = SS at *
    generalize (⟨MI.toArray⟩ : ByteArray) = MS at *
    have ycat : ¬ (9223372036854775807 < RT.size + SS.size) := by omega
    have ycat2 : ¬ (RT.size + SS.size > 9223372036854775807) := by omega
    generalize trimD (RT ++ SS) = tr at *
    clear hcat
    generalize hIP : intP MI = IP at *
    have hcat' := Lib.hid hcat2
    have hSt' := Lib.hid hSt
    have zr' := Lib.hid zr
    have zs' := Lib.hid zs
    clear hIP hcat2 hSt zr zs hsel hrtl
    go_wp2_with fail
    refine (hI.out _ hT3 hE3).mono ?_; rintro e w4 ⟨v, rfl, hv, B4⟩
    have hT4 := hT3.below B4
    have hE4 := hE3.below B4
    have hR4 := hR3.below B4
    replace B4 := below_next B3 B4
    clear hT3 hE3 hR3 B3 hI
    go_wp2_with fail
    refine (hA2.out _ hE4 hR4).mono ?_; rintro e w5 ⟨B5, h5⟩
    obtain ⟨x, er1, rfl, hx1⟩ : ∃ (x : Int) (er1 : Value), e = .returned (.tuple #[.int .i64 x, er1]) ∧ (((-9223372036854775808 ≤ x ∧ x ≤ 9223372036854775807) ∧ er1 = .nilIface) ∨ ∃ T N, er1 = .iface T (.pointer (some ⟨N, 0, none⟩))) := by
      rcases h5 with ⟨n, hn, he⟩ | ⟨x, T, N, he⟩
      · exact ⟨n, _, he, .inl ⟨hn, rfl⟩⟩
      · exact ⟨x, _, he, .inr ⟨T, N, rfl⟩⟩
    have hx1' := Lib.hid hx1
    have hT5 := hT4.below B5
    have hE5 := hE4.below B5
    have hR5 := hR4.below B5
    replace B5 := below_next B4 B5
    clear h5 hx1 hT4 hE4 hR4 B4 hA2
    go_wp2_with fail
    refine (hA3.out _ hE5 hR5).mono ?_; rintro e w6 ⟨B6, h6⟩
    obtain ⟨h, er2, rfl, hx2⟩ : ∃ (x : Int) (er1 : Value), e = .returned (.tuple #[.int .i64 x, er1]) ∧ (((-9223372036854775808 ≤ x ∧ x ≤ 9223372036854775807) ∧ er1 = .nilIface) ∨ ∃ T N, er1 = .iface T (.pointer (some ⟨N, 0, none⟩))) := by
      rcases h6 with ⟨n, hn, he⟩ | ⟨x, T, N, he⟩
      · exact ⟨n, _, he, .inl ⟨hn, rfl⟩⟩
      · exact ⟨x, _, he, .inr ⟨T, N, rfl⟩⟩
    have hx2' := Lib.hid hx2
    have hT6 := hT5.below B6
    replace B6 := below_next B5 B6
    clear h6 hx2 hT5 hE5 hR5 B5 hA3
    cases point
    · go_wp2
      go_ret2
      exact ⟨rfl, B6⟩
    rcases IP with _ | m
    · go_wp2
      go_ret2
      exact ⟨rfl, B6⟩
    obtain rfl := hv m rfl
    clear hv
    by_cases hm : v < 0
    · go_wp2
      all_goals (go_ret2; exact ⟨rfl, B6⟩)
    rcases hx1'.out.symm with ⟨T, N, rfl⟩ | ⟨hxb, rfl⟩
    · clear hx1' hx2'
      go_wp2
      all_goals (go_ret2; exact ⟨rfl, B6⟩)
    rcases hx2'.out.symm with ⟨T, N, rfl⟩ | ⟨hhb, rfl⟩
    · clear hx1' hx2'
      go_wp2
      all_goals (go_ret2; exact ⟨rfl, B6⟩)
    clear hx1' hx2'
    by_cases hl : ¬ RT.size = 2
    · have hl2 : ((RT.size : Int) != 2) = true := by simpa using (by omega : ¬ (RT.size : Int) = 2)
      go_wp2
      all_goals (go_ret2; exact ⟨rfl, B6⟩)
    have hl1 : RT.size = 2 := by omega
    have hF2 := Lib.hid (hF.out rfl v rfl (by rw [← zr'.out]; exact hl1))
    clear hl hF
    cases hq : tr.toList.isEmpty
    · go_wp2_with fail
      · exfalso; omega
      refine (hTr.out _).mono ?_; rintro e w7 ⟨rfl, B7⟩
      replace B7 := below_next B6 B7
      go_wp2
      go_ret2
      exact ⟨rfl, B7⟩
    go_wp2_with fail
    · exfalso; omega
    refine (hTr.out _).mono ?_; rintro e w7 ⟨rfl, B7⟩
    have hT7 := hT6.below B7
    replace B7 := below_next B6 B7
    clear hT6 B6 hTr
    have hd : SE.all dig = true := by
      have h1 := hcat'.out
      rw [hq, List.all_append] at h1
      simp at h1
      simpa using h1.2
    have hd' := Lib.hid hd
    clear hcat' hd
    cases colon
    · have hit := Lib.hid (itoa_c x w7 hT7 (by omega) (by omega))
      have hIt : (itoaS x).toList = Lib.itoa x := by rw [ByteArray.toList_eq]; simp [itoaS]
      by_cases hq9 : SE = Lib.itoa x
      · have hq3 : SS.toList = (itoaS x).toList := by rw [hIt, hSt'.out]; exact hq9
        have hx9 : 59 < x := hF2.out.2 rfl x hq9 hd'.out
        clear hIt hq9 hF2
        generalize itoaS x = I at *
        go_wp2_with fail
        refine hit.out.mono ?_; rintro e w8 ⟨rfl, B8⟩
        replace B8 := below_next B7 B8
        go_wp2
        go_ret2
        exact ⟨rfl, B8⟩
      · have hq3 : ¬ SS.toList = (itoaS x).toList := by rw [hIt, hSt'.out]; exact hq9
        have hq4 : (SS.toList == (itoaS x).toList) = false := beq_eq_false_iff_ne.2 hq3
        clear hIt hq9 hq3 hF2
        generalize itoaS x = I at *
        go_wp2_with fail
        refine hit.out.mono ?_; rintro e w8 ⟨rfl, B8⟩
        replace B8 := below_next B7 B8
        go_wp2
        go_ret2
        exact ⟨rfl, B8⟩
    · have hs2 : SS.size ≠ 2 := by rw [zs'.out]; exact hF2.out.1 rfl
      have hs3 : ((SS.size : Int) != 2) = true := by simpa using (by omega : ¬ (SS.size : Int) = 2)
      by_cases hv0 : v = 0
      · have hvb : (v == 0) = true := by simpa using hv0
        clear hv0 hF2
        go_wp2
        all_goals first | (exfalso; omega) | (go_ret2; exact ⟨rfl, B7⟩)
      · have hvb : (v == 0) = false := beq_eq_false_iff_ne.2 hv0
        clear hv0 hF2
        go_wp2
        all_goals first | (exfalso; omega) | (go_ret2; exact ⟨rfl, B7⟩)
/-- ParsedOf of any string -/
theorem parsedL_c (s : ByteArray) (w : World) (hs : s.size ≤ 900000) (hM : Mx w) (hT : Tb w) (hE : Ex w) (hR : Er w) : Calls Tryz.prog 221 #[.string s] w fun e w' => e = .returned (.tuple #[.int .i64 (parseP s.data.toList).1, .int .i64 (parseP s.data.toList).2]) ∧ Below w.heap.size w w' := by
  by_cases h : s.size ≤ 18
  · exact parsedOf_c s w h hM hT hE
  · rw [parseP_long (by have := Lib.size_eq s; omega)]
    exact parsedBig_c s w (by omega) hs hM hT hE hR
end Go.Proofs.YtklggnglaeagpaaGreatDoor

/- The reference's reader of ranks: tumbref1.RanksRead. Printed by wip/mkrr.py. -/
namespace Go.Proofs.YtklggnglaeagpaaGreatDoor
open Go.RowKit Go.Lib
set_option linter.unusedVariables false

def tmPair (t : List UInt8) : Int × Int := if t = [45] then (0, 0) else parseP t
theorem rkTm_pair (t : List UInt8) : rkTm t = if (tmPair t).2 = 0 then some (tmPair t).1 else none := by
  unfold rkTm tmPair
  split
  · rfl
  · rfl
theorem rkFin_bad {z : List UInt8} {R : Option (List Int)} {T : Option Int} (h : T = none) : rkFin z R T = none := by
  subst h
  unfold rkFin
  split
  · rename_i e; cases e
  · rfl
set_option maxHeartbeats 6400000 in
set_option maxRecDepth 100000 in
theorem rkRef_cl (w : World) (b N : Nat) (hN : N ≤ 900000) (hb : w.heap.size ≤ b) (hM : Mx w) (hTb : Tb w) (hEx : Ex w) (hEr : Er w) : TakeL N 220 #[.pointer (some ⟨b, 0, none⟩)] (fun a => (rkParse a).isSome) (RkI w b) := by
  refine ⟨enters_of Tryz.func220 (by kernel_rfl) rfl, fun L s W hI hL hs => ?_, fun L W q h => h.below (below_drewN (Below.refl _ _) q), fun L W h => h.mx⟩
  have hIb := Lib.hid (fun W' (B : Below W.heap.size W W') => hI.below B)
  have hMxx := Lib.hid (fun W' (B : Below b w W') => hM.below (B.mono hb))
  have hTxx := Lib.hid (fun W' (B : Below b w W') => And.intro (hTb.below (B.mono hb)) (And.intro (hEx.below (B.mono hb)) (hEr.below (B.mono hb))))
  have hBad := Lib.hid (fun W' (B : Below W.heap.size W W') (h : (rkParse s.data.toList).isSome = false) => hI.bad B h)
  have hSp := Lib.hid (splitS_c 32 s W (by omega) hI.mx)
  have hE1 := Lib.hid (fun h => rk_emp (a := s.data.toList) h)
  have hE2 := Lib.hid (fun h => rk_len (a := s.data.toList) h)
  have hT := Lib.hid (fun r z t f h h1 h2 h3 h4 => rk_four (a := s.data.toList) (r := r) (z := z) (t := t) (f := f) h h1 h2 h3 h4)
  have hSz := Lib.hid (show ∀ p ∈ spl 32 s.data.toList, p.length ≤ 900000 from fun p hp => by
    have h9 := Lib.size_eq s
    have := splN_le 32 _ p hp
    omega)
  have hGd := Lib.hid (fun (W' : World) (u : Value) (acc : List Rk) (x : Rk) h1 h2 h4 h5 h6 hm hB => TkI.good (T := 34) (Te := 48) (sz := 4) (enc := rkE) (parse := rkParse) (w := w) (b := b) (L := L) (a := s.data.toList) (W := W') (u := u) (acc := acc) (x := x) h1 h2 h4 h5 h6 hm hB)
  show Calls Tryz.prog 220 #[.string s, .pointer (some ⟨b, 0, none⟩)] W fun e w' => e = .returned (.bool (rkParse s.data.toList).isSome) ∧ RkI w b (L ++ [s.data.toList]) w'
  obtain ⟨SP, hSP⟩ : ∃ SP, rkParse s.data.toList = SP := ⟨_, rfl⟩
  rw [hSP] at hE1 hE2 hT hBad hGd ⊢
  generalize hps : spl 32 s.data.toList = ps at *
  have hI0 := Lib.hid hI
  clear hI hSP hps
  go_enter Tryz.func220, Tryz.ntmps220
  go_wp2_with fail
  refine hSp.out.mono ?_; rintro e w1 ⟨A, n, Lw, rfl, hR, hLw', hnz, _, B1⟩
  have hCo := Lib.hid (contS_c A n n Lw ⟨#[]⟩ w1 hR)
  rw [emp_dec hLw'] at hCo
  by_cases hem : ([] : List UInt8) ∈ ps
  · have hd : decide (([] : List UInt8) ∈ ps) = true := decide_eq_true hem
    rw [hd] at hCo
    obtain rfl : SP = none := hE1.out hem
    have hI2 := hBad.out _ B1 rfl
    clear hd hem hLw' hSp
    go_wp2_with fail
    refine hCo.out.mono ?_; rintro e w2 ⟨rfl, rfl⟩
    go_wp2
    go_ret
    exact ⟨rfl, hI2⟩
  have hd : decide (([] : List UInt8) ∈ ps) = false := decide_eq_false hem
  rw [hd] at hCo
  go_wp2_with fail
  refine hCo.out.mono ?_; rintro e w1' ⟨rfl, rfl⟩
  clear hCo
  have hLn := hR.len
  have hnp : ps.length = n := by rw [← hLw', List.length_map, hLn]
  by_cases h4 : n = 4
  rotate_left
  · have hd5 : ((n : Int) != 4) = true := by rw [bne_iff_ne]; omega
    have hi5 : ¬ (n : Int) = 4 := by omega
    obtain rfl : SP = none := hE2.out (by omega)
    have hI2 := hBad.out _ B1 rfl
    clear hd hem hSp hLw' h4 hE1 hE2
    go_wp2
    go_ret
    exact ⟨rfl, hI2⟩
  subst h4
  obtain ⟨bx, ox, x0, hA, hbl, hx0, c0⟩ := hR.at_ (k := 0) (by omega)
  subst hA
  obtain ⟨csx, fzx, hbk, hcz⟩ := hR.blk (by omega)
  obtain ⟨y0, y1, y2, y3, rfl⟩ : ∃ y0 y1 y2 y3, Lw = [y0, y1, y2, y3] := by
    match Lw, hLn with
    | [a, b, c, d], _ => exact ⟨a, b, c, d, rfl⟩
  have hps2 : ps = [bL y0, bL y1, bL y2, bL y3] := by rw [← hLw']; rfl
  have hpar := Lib.hid (hT.out _ _ _ _ hps2 (fun e => hem (by rw [hps2, e]; simp)) (fun e => hem (by rw [hps2, e]; simp)) (fun e => hem (by rw [hps2, e]; simp)) (fun e => hem (by rw [hps2, e]; simp)))
  have hy2s : y2.size ≤ 900000 := by
    have h9 := hSz.out (bL y2) (by rw [hps2]; simp)
    have := Lib.size_eq y2
    unfold bL at h9
    omega
  have hcz1 : csx[ox + 1]? = some (.string y1) := hcz 1 _ rfl
  have hcel := Lib.hid (fun (W : World) (h : W.heap[bx]? = some (.cells csx 9 fzx)) => And.intro (show W.cell? ⟨bx, ox, none⟩ = some (.string y0) by have h9 := cell_of_row W bx (ox + 0) csx _ fzx h; rw [hcz 0 _ rfl] at h9; exact h9) (And.intro (show W.cell? ⟨bx, ox + 2, none⟩ = some (.string y2) by have h9 := cell_of_row W bx (ox + 2) csx _ fzx h; rw [hcz 2 _ rfl] at h9; exact h9) (show W.cell? ⟨bx, ox + 3, none⟩ = some (.string y3) by have h9 := cell_of_row W bx (ox + 3) csx _ fzx h; rw [hcz 3 _ rfl] at h9; exact h9)))
  obtain ⟨d0, _, d3⟩ := hcel.out w1.drew hbk
  have hI1 := hIb.out _ B1
  have hbka : (w1.alloc (.cells #[.string y0, .string y3] 9)).drew.heap[bx]? = some (.cells csx 9 fzx) := blk_alloc hbk _
  have hBa : Below W.heap.size W (w1.alloc (.cells #[.string y0, .string y3] 9)).drew := below_drewN (B1.alloc B1.size (.cells #[.string y0, .string y3] 9)) 1
  have hTa := hTxx.out _ (hIb.out _ hBa).bel
  have hNs := Lib.hid (intsW_c (some ⟨w1.heap.size, 0, none⟩) 2 2 4 [y0, y3] (w1.alloc (.cells #[.string y0, .string y3] 9)).drew (R1.lit w1 #[.string y0, .string y3] [y0, y3] rfl (by simp)) (by decide) (by decide) hTa.1 hTa.2.1)
  unfold RetNs at hNs
  rw [show ((4 : Nat) : Int) = 4 from rfl] at hNs
  rw [show ([y0, y3] : List ByteArray).map bL = [bL y0, bL y3] from rfl] at hNs
  obtain ⟨RS9, hRS⟩ : ∃ RS9, numsP [bL y0, bL y3] 4 = RS9 := ⟨_, rfl⟩
  rw [hRS] at hNs hpar
  obtain ⟨q0, _, q3⟩ := hcel.out _ hbka
  clear hem hd hLw' hT hE1 hE2 hSp hx0 hnp hLn hps2 hcz c0 hI1 hR hnz hSz hTa
  go_wp2_with fail
  go_region_held3 (fun w' => w'.cell? ⟨bx, ox, none⟩ = some (.string y0) ∧ w'.cell? ⟨bx, ox + 3, none⟩ = some (.string y3)) (first | go_keep | with_reducible exact ⟨d0, d3⟩ | with_reducible exact ⟨q0, q3⟩ | with_reducible exact ⟨f0, f3⟩)
    (first
      | (go_at_call 188; with_reducible refine hNs.out.mono ?_; rintro e w3 ⟨A3, n3, c3, rfl, ho3, hz3, B3⟩; obtain ⟨f0, _, f3⟩ := hcel.out w3 (blk_below hbka B3)))
  have B12 := below_next hBa B3
  have hbk3 := blk_below hbka B3
  obtain ⟨_, f2, _⟩ := hcel.out w3 hbk3
  clear hNs hBa hbka hbk d0 d3 q0 q3 B3
  have hPs := Lib.hid (fun W hM (hT : Tb W) hE hR => parsedL_c y2 W hy2s hM hT hE hR)
  have hTm : Hid (rkTm (bL y2) = if (tmPair (bL y2)).2 = 0 then some (tmPair (bL y2)).1 else none) := Lib.hid (rkTm_pair _)
  have h45 := bytes45 (y := y2)
  obtain ⟨V, E, hVE⟩ : ∃ V E, tmPair (bL y2) = (V, E) := ⟨_, _, rfl⟩
  have hPc : Hid ((bL y2 = [45] → V = 0 ∧ E = 0) ∧ (bL y2 ≠ [45] → parseP y2.data.toList = (V, E))) := Lib.hid (by
    unfold tmPair at hVE
    constructor
    · intro h; rw [if_pos h] at hVE; injection hVE with h1 h2; exact ⟨h1.symm, h2.symm⟩
    · intro h; rw [if_neg h] at hVE; exact hVE)
  rw [hVE] at hTm
  dsimp only at hTm
  clear hVE
  go_upto_if 32 with (fail)
  go_cut [7, 8] (fun s7 s8 wx => s7 = .int .i64 V ∧ s8 = .int .i64 E ∧ Below w3.heap.size w3 wx)
  case first =>
    by_cases h45e : bL y2 = [45]
    · rw [decide_eq_true h45e] at h45 ⊢
      have h46 : (y2.toList != [45]) = false := by rw [bne, h45]; rfl
      have h47 : y2.toList = [45] := beq_iff_eq.1 h45
      obtain ⟨rfl, rfl⟩ := hPc.out.1 h45e
      clear hPc hTm h45e
      go_wp2
      go_meet
      case rel => exact ⟨rfl, rfl, Below.refl _ _⟩
    · rw [decide_eq_false h45e] at h45 ⊢
      have h46 : (y2.toList != [45]) = true := by rw [bne, h45]; rfl
      have h47 : ¬ y2.toList = [45] := fun e => by rw [beq_iff_eq.2 e] at h45; cases h45
      have hq := hPc.out.2 h45e
      rw [hq] at hPs
      have hI3 := hIb.out _ B12
      have hT3 := hTxx.out _ hI3.bel
      have hPs3 := Lib.hid (hPs.out w3 hI3.mx hT3.1 hT3.2.1 hT3.2.2)
      clear hPc hTm h45e hq hI3 hT3 hPs
      go_wp2_with fail
      refine hPs3.out.mono ?_; rintro e w5 ⟨rfl, B5⟩
      go_wp2
      go_meet
      case rel => exact ⟨rfl, rfl, B5⟩
  case rest =>
    rename World => w5
    obtain ⟨rfl, rfl, B5⟩ := hcut
    have B15 := below_next B12 B5
    clear hPc hPs f2 h45
    rcases hRS9 : RS9 with _ | ns
    · subst hRS9
      obtain rfl : SP = none := hpar.out
      have hI2 := hBad.out _ B15 rfl
      clear hz3 ho3 hGd hIb hRS hpar hTm
      go_wp2
      go_ret
      exact ⟨rfl, hI2⟩
    subst hRS9
    have hl2 : ns.length = 2 := by have h9 := congrArg List.length (numsP_iff.1 hRS).1; simp at h9; omega
    obtain ⟨m0, m1, rfl⟩ : ∃ m0 m1, ns = [m0, m1] := by
      match ns, hl2 with
      | [p, q], _ => exact ⟨p, q, rfl⟩
    by_cases hE : E = 0
    rotate_left
    · have e9 : (E != 0) = true := by simpa using hE
      obtain rfl : SP = none := by rw [hpar.out, hTm.out, if_neg hE]; rfl
      have hI2 := hBad.out _ B15 rfl
      clear hz3 ho3 hGd hIb hRS hpar hTm hE
      go_wp2
      go_ret
      exact ⟨rfl, hI2⟩
    subst hE
    obtain rfl : SP = some ⟨y1, m0, V, m1⟩ := by rw [hpar.out, hTm.out]; rfl
    obtain rfl : n3 = 2 := by have h9 := ho3.1; simp only [Option.getD_some] at h9; rw [ints_len] at h9; simp at h9; omega
    have hR3 : RI 3 w3 A3 2 [m0, m1] := R1.of_own ho3 (by omega)
    obtain ⟨by_, oy, m0', hA3, hbly, hm0, cy0⟩ := hR3.at_ (k := 0) (by omega)
    subst hA3
    obtain ⟨csy, fzy, hbky, hczy⟩ := hR3.blk (by omega)
    have hcy0 : csy[oy + 0]? = some (.int .i64 m0) := hczy 0 _ rfl
    have hcy1 : csy[oy + 1]? = some (.int .i64 m1) := hczy 1 _ rfl
    have I3 := hIb.out _ B15
    have hmx := I3.mx
    have hbel := I3.bel
    have hbk5 := blk_below hbk3 B5
    have hbky5 := blk_below hbky B5
    obtain ⟨u, acc, hbx, hoA, haL, hfA⟩ := I3.ex
    have hfA' := Lib.hid hfA
    have haN : acc.length ≤ 1000000 := by omega
    have lb9 : b < w5.drew.heap.size := lt_of_heap hbx
    have hne9 : bx ≠ b := fun e => by subst e; rw [hbk5] at hbx; injection hbx with hbx; injection hbx with _ hbx; exact absurd hbx (by decide)
    have hny9 : by_ ≠ b := fun e => by subst e; rw [hbky5] at hbx; injection hbx with hbx; injection hbx with _ hbx; exact absurd hbx (by decide)
    have hbx9 : w5.drew.heap[b]? = some (.cells #[u] 34 (0, 0)) := hbx
    have hbk9 : w5.drew.heap[bx]? = some (.cells csx 9 fzx) := hbk5
    have hby9 : w5.drew.heap[by_]? = some (.cells csy 3 fzy) := hbky5
    have cb9 : w5.drew.cell? ⟨b, 0, none⟩ = some u := (blk_facts hbx9).1 0
    have hoA9 : w5.drew.ownsRow (b + 1) 48 4 u acc.length (acc.flatMap rkE) := hoA
    have hmx9 : Mx w5.drew := hmx
    have hbel9 : Below b w w5.drew := below_drewN hbel 1
    have hbelx : Below W.heap.size W w5 := B15
    clear I3 hbk3 hbx hoA hmx hbel hfA hz3 ho3 hRS hbl hR3 hczy hbky cy0 hm0 hl2 hbly hpar hTm
    obtain ⟨i0, hi0, hz0, hz1, hz2⟩ := info_parts info_ranked
    clear hIb hBad B12 B15 B1 hI0 hbk5 hbky5 B5 hTxx hcel
    go_wp2_with fail
    refine wp_region_inv (by kernel_rfl) (fun listed a w' => ∃ xs : Nat → Value, a = { tmps := #[.string s, .pointer (some ⟨b, 0, none⟩), undef, .bool false, .slice (some ⟨bx, ox, none⟩) 4 4, .slice (some ⟨by_, oy, none⟩) 2 c3, .bool (some [m0, m1]).isSome, .int .i64 V, .int .i64 0, u9, u10, u11, u12, u13, u14, u15, u16, u17, u18, u19, u20, u21, u22, u23, u24, u25, u26, u27, u28, u29, u30, u31, u32, u33, u34, u35, u36, u37, u38, u39, .bool (some [m0, m1]).isSome, .bool false, .bool false, .int .i64 0, .bool false, .bool false, xs 0, xs 1, xs 2, xs 3, xs 4, xs 5, xs 6, xs 7, xs 8, xs 9, xs 10, xs 11, xs 12, xs 13], defers := [] } ∧ (∀ j, listed.getD j false = true → CV [some (u), some (.slice (some ⟨by_, oy, none⟩) 2 c3), some (.pointer (some ⟨by_, oy, none⟩)), some (.int .i64 m0), some (.slice (some ⟨bx, ox, none⟩) 4 4), some (.pointer (some ⟨bx, ox + 1, none⟩)), some (.string y1), some (.int .i64 V), some (.slice (some ⟨by_, oy, none⟩) 2 c3), some (.pointer (some ⟨by_, oy + 1, none⟩)), some (.int .i64 m1), some (.agg #[.string y1, .int .i64 m0, .int .i64 V, .int .i64 m1]), none, none, none] j w' (xs j)) ∧ ApSt (b + 1) 48 4 (acc.length) (acc.flatMap rkE) ([.string y1, .int .i64 m0, .int .i64 V, .int .i64 m1]) (w5.drew) 0 12 13 14 ⟨b, 0, none⟩ listed xs w') ?h0 (AllOps.of ?hs) ?he
    case h0 => exact ⟨fun j => match j with | 0 => u46 | 1 => u47 | 2 => u48 | 3 => u49 | 4 => u50 | 5 => u51 | 6 => u52 | 7 => u53 | 8 => u54 | 9 => u55 | 10 => u56 | 11 => u57 | 12 => u58 | 13 => u59 | _ => undef, rfl, (fun j hj => by rw [rep_falseA] at hj; cases hj), ApSt.start⟩
    case hs =>
      refine ⟨?_, ?_, ?_, ?_, ?_, ?_, ?_, ?_, ?_, ?_, ?_, ?_, ?_, ?_, ?_, trivial⟩
      · intro listed a w' hs hI h0 hd K2 hK
        obtain ⟨xs, rfl, hC, hW⟩ := hI
        have hK2 := Lib.hid hK
        have hC2 := Lib.hid hC
        have B9 := hW.below h0
        have c9 : w'.cell? ⟨b, 0, none⟩ = some u := (B9.cell (p := ⟨b, 0, none⟩) lb9).trans cb9
        have hU9 := Lib.hid (hW.row h0 (Below.refl _ _) (v := u) (own_below hoA9 B9) (by decide) (by decide) (by decide))
        clear hd hK hC h0
        go_simp
        exact hK2.out _ _ ⟨updV xs 0 (u), by simp [updV], cond_set hC2.out (fun _ _ h => h) (CV.of rfl rfl), hU9.out⟩
      · intro listed a w' hs hI h0 hd K2 hK
        obtain ⟨xs, rfl, hC, hW⟩ := hI
        have hK2 := Lib.hid hK
        have hC2 := Lib.hid hC
        clear hd hK hC h0
        go_simp
        exact hK2.out _ _ ⟨updV xs 1 (.slice (some ⟨by_, oy, none⟩) 2 c3), by simp [updV], cond_set hC2.out (fun _ _ h => h) (CV.of rfl rfl), hW.keep (by decide) (by decide) (by decide) (by decide)⟩
      · intro listed a w' hs hI h0 hd K2 hK
        obtain ⟨xs, rfl, hC, hW⟩ := hI
        have e1 : xs 1 = .slice (some ⟨by_, oy, none⟩) 2 c3 := (hC 1 (hd ⟨1, .data⟩ (by simp) rfl)) _ rfl
        have hK2 := Lib.hid hK
        have hC2 := Lib.hid hC
        clear hd hK hC h0
        go_simp
        exact hK2.out _ _ ⟨updV xs 2 (.pointer (some ⟨by_, oy, none⟩)), by simp [updV, e1], cond_set hC2.out (fun _ _ h => h) (CV.of rfl rfl), hW.keep (by decide) (by decide) (by decide) (by decide)⟩
      · intro listed a w' hs hI h0 hd K2 hK
        obtain ⟨xs, rfl, hC, hW⟩ := hI
        have e2 : xs 2 = .pointer (some ⟨by_, oy, none⟩) := (hC 2 (hd ⟨2, .data⟩ (by simp) rfl)) _ rfl
        have hK2 := Lib.hid hK
        have hC2 := Lib.hid hC
        have q9 := hW.typ by_ csy _ fzy (by decide) hny9 hby9
        have c9 : w'.cell? ⟨by_, oy + 0, none⟩ = some (.int .i64 m0) := by rw [cell_of_row w' by_ (oy + 0) csy _ fzy q9]; exact hcy0
        have c9' : w'.cell? ⟨by_, oy, none⟩ = some (.int .i64 m0) := c9
        clear hd hK hC h0
        go_simp
        exact hK2.out _ _ ⟨updV xs 3 (.int .i64 m0), by simp [updV, e2], cond_set hC2.out (fun _ _ h => h) (CV.of rfl rfl), hW.keep (by decide) (by decide) (by decide) (by decide)⟩
      · intro listed a w' hs hI h0 hd K2 hK
        obtain ⟨xs, rfl, hC, hW⟩ := hI
        have hK2 := Lib.hid hK
        have hC2 := Lib.hid hC
        clear hd hK hC h0
        go_simp
        exact hK2.out _ _ ⟨updV xs 4 (.slice (some ⟨bx, ox, none⟩) 4 4), by simp [updV], cond_set hC2.out (fun _ _ h => h) (CV.of rfl rfl), hW.keep (by decide) (by decide) (by decide) (by decide)⟩
      · intro listed a w' hs hI h0 hd K2 hK
        obtain ⟨xs, rfl, hC, hW⟩ := hI
        have e4 : xs 4 = .slice (some ⟨bx, ox, none⟩) 4 4 := (hC 4 (hd ⟨4, .data⟩ (by simp) rfl)) _ rfl
        have hK2 := Lib.hid hK
        have hC2 := Lib.hid hC
        clear hd hK hC h0
        go_simp
        exact hK2.out _ _ ⟨updV xs 5 (.pointer (some ⟨bx, ox + 1, none⟩)), by simp [updV, e4], cond_set hC2.out (fun _ _ h => h) (CV.of rfl rfl), hW.keep (by decide) (by decide) (by decide) (by decide)⟩
      · intro listed a w' hs hI h0 hd K2 hK
        obtain ⟨xs, rfl, hC, hW⟩ := hI
        have e5 : xs 5 = .pointer (some ⟨bx, ox + 1, none⟩) := (hC 5 (hd ⟨5, .data⟩ (by simp) rfl)) _ rfl
        have hK2 := Lib.hid hK
        have hC2 := Lib.hid hC
        have q9 := hW.typ bx csx _ fzx (by decide) hne9 hbk9
        have c9 : w'.cell? ⟨bx, ox + 1, none⟩ = some (.string y1) := by rw [cell_of_row w' bx (ox + 1) csx _ fzx q9]; exact hcz1
        clear hd hK hC h0
        go_simp
        exact hK2.out _ _ ⟨updV xs 6 (.string y1), by simp [updV, e5], cond_set hC2.out (fun _ _ h => h) (CV.of rfl rfl), hW.keep (by decide) (by decide) (by decide) (by decide)⟩
      · intro listed a w' hs hI h0 hd K2 hK
        obtain ⟨xs, rfl, hC, hW⟩ := hI
        have hK2 := Lib.hid hK
        have hC2 := Lib.hid hC
        clear hd hK hC h0
        go_simp
        exact hK2.out _ _ ⟨updV xs 7 (.int .i64 V), by simp [updV], cond_set hC2.out (fun _ _ h => h) (CV.of rfl rfl), hW.keep (by decide) (by decide) (by decide) (by decide)⟩
      · intro listed a w' hs hI h0 hd K2 hK
        obtain ⟨xs, rfl, hC, hW⟩ := hI
        have hK2 := Lib.hid hK
        have hC2 := Lib.hid hC
        clear hd hK hC h0
        go_simp
        exact hK2.out _ _ ⟨updV xs 8 (.slice (some ⟨by_, oy, none⟩) 2 c3), by simp [updV], cond_set hC2.out (fun _ _ h => h) (CV.of rfl rfl), hW.keep (by decide) (by decide) (by decide) (by decide)⟩
      · intro listed a w' hs hI h0 hd K2 hK
        obtain ⟨xs, rfl, hC, hW⟩ := hI
        have e8 : xs 8 = .slice (some ⟨by_, oy, none⟩) 2 c3 := (hC 8 (hd ⟨8, .data⟩ (by simp) rfl)) _ rfl
        have hK2 := Lib.hid hK
        have hC2 := Lib.hid hC
        clear hd hK hC h0
        go_simp
        exact hK2.out _ _ ⟨updV xs 9 (.pointer (some ⟨by_, oy + 1, none⟩)), by simp [updV, e8], cond_set hC2.out (fun _ _ h => h) (CV.of rfl rfl), hW.keep (by decide) (by decide) (by decide) (by decide)⟩
      · intro listed a w' hs hI h0 hd K2 hK
        obtain ⟨xs, rfl, hC, hW⟩ := hI
        have e9 : xs 9 = .pointer (some ⟨by_, oy + 1, none⟩) := (hC 9 (hd ⟨9, .data⟩ (by simp) rfl)) _ rfl
        have hK2 := Lib.hid hK
        have hC2 := Lib.hid hC
        have q9 := hW.typ by_ csy _ fzy (by decide) hny9 hby9
        have c9 : w'.cell? ⟨by_, oy + 1, none⟩ = some (.int .i64 m1) := by rw [cell_of_row w' by_ (oy + 1) csy _ fzy q9]; exact hcy1
        clear hd hK hC h0
        go_simp
        exact hK2.out _ _ ⟨updV xs 10 (.int .i64 m1), by simp [updV, e9], cond_set hC2.out (fun _ _ h => h) (CV.of rfl rfl), hW.keep (by decide) (by decide) (by decide) (by decide)⟩
      · intro listed a w' hs hI h0 hd K2 hK
        obtain ⟨xs, rfl, hC, hW⟩ := hI
        have e3 : xs 3 = .int .i64 m0 := (hC 3 (hd ⟨3, .data⟩ (by simp) rfl)) _ rfl
        have e6 : xs 6 = .string y1 := (hC 6 (hd ⟨6, .data⟩ (by simp) rfl)) _ rfl
        have e7 : xs 7 = .int .i64 V := (hC 7 (hd ⟨7, .data⟩ (by simp) rfl)) _ rfl
        have e10 : xs 10 = .int .i64 m1 := (hC 10 (hd ⟨10, .data⟩ (by simp) rfl)) _ rfl
        have hK2 := Lib.hid hK
        have hC2 := Lib.hid hC
        clear hd hK hC h0
        go_simp
        exact hK2.out _ _ ⟨updV xs 11 (.agg #[.string y1, .int .i64 m0, .int .i64 V, .int .i64 m1]), by simp [updV, e3, e6, e7, e10], cond_set hC2.out (fun _ _ h => h) (CV.of rfl rfl), hW.keep (by decide) (by decide) (by decide) (by decide)⟩
      · intro listed a w' hs hI h0 hd K2 hK
        obtain ⟨xs, rfl, hC, hW⟩ := hI
        have e11 : xs 11 = .agg #[.string y1, .int .i64 m0, .int .i64 V, .int .i64 m1] := (hC 11 (hd ⟨11, .data⟩ (by simp) rfl)) _ rfl
        have hK2 := Lib.hid hK
        have hC2 := Lib.hid hC
        have hL9 := Lib.hid (hW.lay h0 (by decide) (by decide) (by decide))
        clear hd hK hC h0
        go_simp
        exact hK2.out _ _ ⟨updV xs 12 (.slice (some ⟨w'.heap.size, 0, none⟩) 1 1), by simp [updV, e11], cond_set hC2.out (fun _ _ h => h) (CV.free rfl), hL9.out⟩
      · intro listed a w' hs hI h0 hd K2 hK
        obtain ⟨xs, rfl, hC, hW⟩ := hI
        have e0 : xs 0 = u := (hC 0 (hd ⟨0, .data⟩ (by simp) rfl)) _ rfl
        have hK2 := Lib.hid hK
        have hC2 := Lib.hid hC
        obtain ⟨o9, B9, z9, q9, hz9, hnx⟩ := hW.app h0 (hd ⟨0, .data⟩ (by simp) rfl) (hd ⟨12, .data⟩ (by simp) rfl) (by decide) (by decide) (by decide)
        rw [e0] at o9 hnx
        have hnx' := Lib.hid hnx
        clear hd hK hC hnx
        refine step_append_lies _ rfl (.tmp 46) (.tmp 58) 34 (by rfl) _ 48 i0 _ 4 40 Tryz.underlying34 hi0 hz0 hz1 hz2 (by rfl) (by omega) _ _ _ (by show xs 0 = _; exact e0) o9 _ 1 1 ([.string y1, .int .i64 m0, .int .i64 V, .int .i64 m1]) (by show xs 12 = _; exact q9) rfl (World.news_of_block hz9) (by simp [Value.oneCell']) (by omega) (by unfold maxLen; omega) (by omega) (Nat.le_trans lb9 B9.size) _ rfl ?_
        intro g cap w2 ho hg hat hlt
        clear h0
        exact hK2.out _ _ ⟨updV xs 13 (.slice (some ⟨g, 0, none⟩) ((acc.length) + 1) cap), by first | rfl | simp [updV, Act.put], cond_set hC2.out (fun _ _ h => h) (CV.free rfl), hnx'.out g cap w2 ho hg hat⟩
      · intro listed a w' hs hI h0 hd K2 hK
        obtain ⟨xs, rfl, hC, hW⟩ := hI
        have hK2 := Lib.hid hK
        have hC2 := Lib.hid hC
        obtain ⟨w1, g, cap, b1, b2, b3, b4, hnx⟩ := hW.store h0 (hd ⟨13, .data⟩ (by simp) rfl) (by decide) (by decide) (by decide)
        have r9 := blk_grown (blk_below hbx9 b1) b3 (fun e => by have := own_row_lt b2 b e.symm; omega)
        have f9 := (blk_facts r9).2 0
        have c9 : w'.cell? ⟨b, 0, none⟩ = some u := (blk_facts r9).1 0
        have hnx' := Lib.hid hnx
        clear hd hK hC h0
        go_simp
        exact hK2.out _ _ ⟨updV xs 14 (undef), by simp [updV, b4], cond_set hC2.out (fun _ _ h => h) (CV.free rfl), hnx'.out _⟩
    case he =>
      intro listed a w' hs hI hr
      obtain ⟨xs, rfl, hC, hW⟩ := hI
      have hal := all_listed hs hr ⟨rfl, rfl, rfl, rfl, rfl, rfl, rfl, rfl, rfl, rfl, rfl, rfl, rfl, rfl, rfl, trivial⟩
      have e0 : xs 0 = u := (hC 0 (hal 0 (by simp))) _ rfl
      have e1 : xs 1 = .slice (some ⟨by_, oy, none⟩) 2 c3 := (hC 1 (hal 1 (by simp))) _ rfl
      have e2 : xs 2 = .pointer (some ⟨by_, oy, none⟩) := (hC 2 (hal 2 (by simp))) _ rfl
      have e3 : xs 3 = .int .i64 m0 := (hC 3 (hal 3 (by simp))) _ rfl
      have e4 : xs 4 = .slice (some ⟨bx, ox, none⟩) 4 4 := (hC 4 (hal 4 (by simp))) _ rfl
      have e5 : xs 5 = .pointer (some ⟨bx, ox + 1, none⟩) := (hC 5 (hal 5 (by simp))) _ rfl
      have e6 : xs 6 = .string y1 := (hC 6 (hal 6 (by simp))) _ rfl
      have e7 : xs 7 = .int .i64 V := (hC 7 (hal 7 (by simp))) _ rfl
      have e8 : xs 8 = .slice (some ⟨by_, oy, none⟩) 2 c3 := (hC 8 (hal 8 (by simp))) _ rfl
      have e9 : xs 9 = .pointer (some ⟨by_, oy + 1, none⟩) := (hC 9 (hal 9 (by simp))) _ rfl
      have e10 : xs 10 = .int .i64 m1 := (hC 10 (hal 10 (by simp))) _ rfl
      have e11 : xs 11 = .agg #[.string y1, .int .i64 m0, .int .i64 V, .int .i64 m1] := (hC 11 (hal 11 (by simp))) _ rfl
      obtain ⟨w1, w2, g, cap, b1, b2, b3, b4, b5, b6, b7⟩ := hW.done (hal 13 (by simp)) (hal 14 (by simp))
      clear hC hs hr hal hW
      rw [e0] at b2 b5 b6
      subst b7
      have r1 := blk_grown (blk_below hbx9 b1) b5 (fun e => by have := own_row_lt b2 b e.symm; omega)
      have r2 := blk_set r1 0 (.slice (some ⟨g, 0, none⟩) (acc.length + 1) cap)
      have hB1 := hbel9.trans (b1.mono (Nat.le_of_lt lb9))
      have hB2 := hB1.grown b5 (Nat.le_trans (Nat.le_of_lt lb9) b1.size) (fun k hk => by have := own_row_lt b2 k hk; omega)
      have hFin := Lib.hid (hGd.out _ _ acc ⟨y1, m0, V, m1⟩ r2 (own_setT (o := 0) b4 (Nat.lt_succ_self b) _) haL hfA'.out (fun _ => rfl) (hMxx.out _ (hB2.setCell (p := ⟨b, 0, none⟩) (Nat.le_refl _) _)) (hB2.setCell (p := ⟨b, 0, none⟩) (Nat.le_refl _) _))
      clear r1 r2 hB1 hB2 b1 b2 b3 b4 b5 b6 e0 e1 e2 e3 e4 e5 e6 e7 e8 e9 e10 e11 hi0 hz0 hz1 hz2 hGd
      generalize w2.setCell ⟨b, 0, none⟩ (.slice (some ⟨g, 0, none⟩) (acc.length + 1) cap) = w8 at *
      go_wp2
      go_ret
      exact ⟨rfl, hFin.out⟩
set_option maxHeartbeats 6400000 in
set_option maxRecDepth 100000 in
theorem refReadRk_c (s : ByteArray) (w : World) (hs : s.size ≤ 200000) (hM : Mx w) (hTb : Tb w) (hEx : Ex w) (hEr : Er w) : Calls Tryz.prog 107 #[.string s] w (RetRf RRk rkErr rkParse s.data.toList w) := by
  have hCF := Lib.hid (fun A n c l W h => rankedFaultA_c A n c l W h)
  have hL1 := Lib.hid (refLines_c (rkRef_cl w w.heap.size 900000 (by omega) (Nat.le_refl _) hM hTb hEx hEr) s (w.alloc (.cells #[.slice none 0 0] 34)) (TkI.start hM) (by omega) (by omega))
  have hAll := Lib.hid (lnR_all (fun a => (rkParse a).isSome) s.data.toList.length s.data.toList (Nat.le_refl _))
  have hIx := Lib.hid (lnR_idx (fun a => (rkParse a).isSome) s.data.toList.length s.data.toList (Nat.le_refl _)).2
  have hzs := Lib.hid (Lib.size_eq s)
  have hR2 := Lib.hid (fun e w' (B : Below w.heap.size w w') (h2 : (lnR (fun a => (rkParse a).isSome) s.data.toList).2.2 = false) (he : e = .returned (.tuple #[.slice none 0 0, .int .i64 (lnR (fun a => (rkParse a).isSome) s.data.toList).2.1, .int .i64 9])) => show RetRf RRk rkErr rkParse s.data.toList w e w' from ⟨B, .inl ⟨h2, he⟩⟩)
  have hR3 := Lib.hid (fun e w' (B : Below w.heap.size w w') (h2 : (lnR (fun a => (rkParse a).isSome) s.data.toList).2.2 = true) (h4 : rkErr ((lnR (fun a => (rkParse a).isSome) s.data.toList).1.filterMap rkParse) ≠ 0) (he : e = .returned (.tuple #[.slice none 0 0, .int .i64 0, .int .i64 (rkErr ((lnR (fun a => (rkParse a).isSome) s.data.toList).1.filterMap rkParse))])) => show RetRf RRk rkErr rkParse s.data.toList w e w' from ⟨B, .inr ⟨h2, .inl ⟨h4, he⟩⟩⟩)
  have hR4 := Lib.hid (fun e w' (A : Option Addr) (n c : Nat) (B : Below w.heap.size w w') (h2 : (lnR (fun a => (rkParse a).isSome) s.data.toList).2.2 = true) (h4 : rkErr ((lnR (fun a => (rkParse a).isSome) s.data.toList).1.filterMap rkParse) = 0) (he : e = .returned (.tuple #[.slice A n c, .int .i64 0, .int .i64 0])) (h5 : RRk w' A n ((lnR (fun a => (rkParse a).isSome) s.data.toList).1.filterMap rkParse)) => show RetRf RRk rkErr rkParse s.data.toList w e w' from ⟨B, .inr ⟨h2, .inr ⟨h4, A, n, c, he, h5⟩⟩⟩)
  generalize RetRf RRk rkErr rkParse s.data.toList w = RD at *
  unfold RetLn at hL1
  generalize lnR (fun a => (rkParse a).isSome) s.data.toList = LN at *
  generalize rkErr = FE at *
  have hs3 : ¬ (200000 : Int) < s.size := by omega
  go_enter Tryz.func107, Tryz.ntmps107
  go_wp2_with fail
  refine hL1.out.mono ?_; rintro e w3 ⟨rfl, hI⟩
  have hB3' := hI.bel
  clear hL1
  cases hok : LN.2.2
  · have hR2' := Lib.hid (fun e he => hR2.out e w3 hB3' hok he)
    clear hok hR2 hR3 hR4 hI
    generalize LN.2.1 = IX at *
    go_wp2
    go_ret3
    exact hR2'.out _ rfl
  · have hcnt : LN.1.length ≤ 1000000 := by have := hIx.out; have := hzs.out; omega
    obtain ⟨A, n, c, acc, hbx, hrs, hdat⟩ := hI.out rkE_len hcnt
    obtain rfl := hdat (fun a ha => ((hAll.out hok).2 a ha).1)
    have hR3' := Lib.hid (fun e w' B h4 he => hR3.out e w' B hok h4 he)
    have hR4' := Lib.hid (fun e w' B h4 he h5 => hR4.out e w' A n c B hok h4 he h5)
    have y0 := (blk_facts hbx).1 0
    have hCf := Lib.hid (hCF.out A n c _ w3 hrs)
    have hbx' := Lib.hid (fun W (B : Below w3.heap.size w3 W) => show W.cell? ⟨w.heap.size, 0, none⟩ = some (.slice A n c) from (blk_facts (blk_below hbx B)).1 0)
    have hrs' := Lib.hid (fun W (B : Below w3.heap.size w3 W) => hrs.below B)
    generalize LN.1.filterMap rkParse = acc at *
    obtain ⟨E, hE⟩ : ∃ E, FE acc = E := ⟨_, rfl⟩
    rw [hE] at hCf hR3' hR4'
    clear hok hR2 hR3 hR4 hI hAll hIx hcnt hdat hbx hrs hE hCF
    go_wp2_with fail
    refine hCf.out.mono ?_; rintro e w4 ⟨rfl, B4⟩
    have hB4 := below_next hB3' B4
    have y0' := hbx'.out _ B4
    have hrs4 := hrs'.out _ B4
    clear hCf y0 hbx' hrs' B4
    by_cases h4 : E = 0
    · subst h4
      have hFin := Lib.hid (fun e he => hR4'.out e w4 hB4 (by first | rfl | trivial) he hrs4)
      clear hR3' hR4' hrs4
      go_wp2
      go_ret3
      exact hFin.out _ rfl
    · have hd : (E != 0) = true := by simpa using h4
      have hFin := Lib.hid (fun e he => hR3'.out e w4 hB4 h4 he)
      clear hR3' hR4' h4 hrs4
      go_wp2
      go_ret3
      exact hFin.out _ rfl
end Go.Proofs.YtklggnglaeagpaaGreatDoor
