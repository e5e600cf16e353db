/- Texts, walked: numbers of words, words of a line, lines. -/
import Derived.Test.YtnkhdofcmanipaaGreatDoorFaTxtP
import Derived.Test.YtnkhdofcmanipaaGreatDoorFaTimeR
import Derived.Test.YtnkhdofcmanipaaGreatDoorFaSortB
namespace Go.Proofs.YtnkhdofcmanipaaGreatDoor
open Go.RowKit Go.Lib
set_option linter.unusedVariables false

theorem trimP_len (s : ByteArray) : (⟨(Lib.trimPrefix s.data.toList [45]).toArray⟩ : ByteArray).size ≤ s.size ∧ s.size ≤ (⟨(Lib.trimPrefix s.data.toList [45]).toArray⟩ : ByteArray).size + 1 ∧ (⟨(Lib.trimPrefix s.data.toList [45]).toArray⟩ : ByteArray).size = (Lib.trimPrefix s.data.toList [45]).length := by
  have h := Lib.size_eq s
  have e : (⟨(Lib.trimPrefix s.data.toList [45]).toArray⟩ : ByteArray).size = (Lib.trimPrefix s.data.toList [45]).length := by
    show (Lib.trimPrefix s.data.toList [45]).toArray.size = _
    rw [List.size_toArray]
  have k : (Lib.trimPrefix s.data.toList [45]).length ≤ s.size ∧ s.size ≤ (Lib.trimPrefix s.data.toList [45]).length + 1 := by
    unfold Lib.trimPrefix
    split
    · rw [List.length_drop]; simp only [List.length_cons, List.length_nil]; omega
    · omega
  exact ⟨by rw [e]; exact k.1, by rw [e]; exact k.2, e⟩
set_option maxRecDepth 100000 in
/-- words.Number of any string -/
theorem numberL_c (s : ByteArray) (most : Nat) (w : World) (hm : most ≤ 17) : Calls Tryz.prog 155 #[.string s, .int .i64 most] w fun e w' => e = .returned (.tuple #[.int .i64 ((numP s.data.toList most).getD 0), .bool (numP s.data.toList most).isSome]) ∧ Below w.heap.size w w' := by
  by_cases hs : s.size ≤ 18
  · exact number_c s most w hs hm
  · have h := Lib.size_eq s
    rw [num_long (l := s.data.toList) (most := most) (by omega)]
    have hCP := Lib.hid (Tryz.strings_CutPrefix s ⟨#[45]⟩ w)
    rw [show (⟨#[45]⟩ : ByteArray).data.toList = [45] from rfl] at hCP
    obtain ⟨t1, t2, t3⟩ := trimP_len s
    generalize Lib.hasPrefix s.data.toList [45] = neg at *
    clear t3
    generalize (⟨(Lib.trimPrefix s.data.toList [45]).toArray⟩ : ByteArray) = t at *
    have e1 : (t.toList == ([] : List UInt8)) = false := by
      rw [beq_eq_false_iff_ne, ByteArray.toList_eq]
      intro e
      have := Lib.size_eq t
      rw [e, List.length_nil] at this
      omega
    have e2 : decide ((t.size : Int) > (most : Int)) = true := decide_eq_true (by omega)
    have e3 : (most : Int) < (t.size : Int) := by omega
    have e4 : t.toList ≠ [] := by simpa using e1
    clear t1 t2 hs h
    go_enter Tryz.func155, Tryz.ntmps155
    go_wp2_with fail
    refine hCP.out.mono ?_; rintro e w1 ⟨rfl, rfl⟩
    go_wp2
    go_ret2
    exact ⟨rfl, Below.refl _ _⟩
set_option maxHeartbeats 3200000 in
set_option maxRecDepth 100000 in
theorem intQ18_c (s : ByteArray) (most : Nat) (w : World) (hs : s.size ≤ 18) (hT : Tb w) (hE : Ex w) : Calls Tryz.prog 121 #[.string s, .int .i64 most] w fun e w' => ∃ v, e = .returned (.tuple #[.int .i64 v, .bool (intQ s.data.toList most).isSome]) ∧ (∀ m, intQ s.data.toList most = some m → v = m) ∧ Below w.heap.size w w' := by
  have hts : (⟨(Lib.trimPrefix s.data.toList [45]).toArray⟩ : ByteArray).size ≤ 18 := by
    show (Lib.trimPrefix s.data.toList [45]).toArray.size ≤ 18
    rw [List.size_toArray]
    unfold Lib.trimPrefix
    have := Lib.size_eq s
    split
    · rw [List.length_drop]; omega
    · omega
  have hlt : (⟨(Lib.trimPrefix s.data.toList [45]).toArray⟩ : ByteArray).size = (Lib.trimPrefix s.data.toList [45]).length := by
    show (Lib.trimPrefix s.data.toList [45]).toArray.size = _
    rw [List.size_toArray]
  have f1 : ¬ ((1 ≤ (Lib.trimPrefix s.data.toList [45]).length ∧ (Lib.trimPrefix s.data.toList [45]).length ≤ most) ∧ (Lib.trimPrefix s.data.toList [45]).all dig = true) → intQ s.data.toList most = none := fun h => by unfold intQ; rw [if_neg h]
  have f2 : ∀ n, ((1 ≤ (Lib.trimPrefix s.data.toList [45]).length ∧ (Lib.trimPrefix s.data.toList [45]).length ≤ most) ∧ (Lib.trimPrefix s.data.toList [45]).all dig = true) → Lib.atoi s.data.toList = some n → Lib.itoa n = s.data.toList → intQ s.data.toList most = some n := fun n h h2 h3 => by unfold intQ; rw [if_pos h, h2]; simp only; rw [if_pos h3]
  have f3 : ∀ n, ((1 ≤ (Lib.trimPrefix s.data.toList [45]).length ∧ (Lib.trimPrefix s.data.toList [45]).length ≤ most) ∧ (Lib.trimPrefix s.data.toList [45]).all dig = true) → Lib.atoi s.data.toList = some n → Lib.itoa n ≠ s.data.toList → intQ s.data.toList most = none := fun n h h2 h3 => by unfold intQ; rw [if_pos h, h2]; simp only; rw [if_neg h3]
  have f4 : Lib.atoi s.data.toList = none → intQ s.data.toList most = none := fun h2 => by unfold intQ; rw [h2]; simp
  generalize intQ s.data.toList most = IP at *
  have hTP := Lib.hid (Tryz.strings_TrimPrefix s ⟨#[45]⟩ w)
  rw [show (⟨#[45]⟩ : ByteArray).data.toList = [45] from rfl] at hTP
  have hA := trimD_all ⟨(Lib.trimPrefix s.data.toList [45]).toArray⟩
  rw [show (⟨(Lib.trimPrefix s.data.toList [45]).toArray⟩ : ByteArray).data.toList = Lib.trimPrefix s.data.toList [45] by simp] at hA
  rw [← hA, ← hlt] at f1 f2 f3
  have hTr := Lib.hid (fun W => trimD_c ⟨(Lib.trimPrefix s.data.toList [45]).toArray⟩ W (by omega))
  generalize (⟨(Lib.trimPrefix s.data.toList [45]).toArray⟩ : ByteArray) = t at *
  clear hA hlt
  rw [← ByteArray.toList_eq (trimD t)] at f1 f2 f3
  generalize trimD t = tr at *
  have hAt := Lib.hid (fun W h => atoiX_c s W hs h)
  have hsl : s.data.toList = s.toList := (ByteArray.toList_eq s).symm
  have hbd := fun n h => int_bd (l := s.data.toList) (n := n) h (by have := Lib.size_eq s; omega)
  have hIn := Lib.hid (fun W => in_c (t.size : Int) 1 most W)
  by_cases h1 : 1 ≤ t.size ∧ t.size ≤ most
  · have hd1 : (decide (1 ≤ (t.size : Int) ∧ (t.size : Int) ≤ most)) = true := decide_eq_true (by omega)
    rw [hd1] at hIn
    cases h2 : tr.toList.isEmpty
    · obtain rfl := f1 (by rw [h2]; simp)
      clear f1 f2 f3 f4 hbd hd1
      go_enter Tryz.func121, Tryz.ntmps121
      go_wp2_with fail
      refine hTP.out.mono ?_; rintro e w' ⟨rfl, rfl⟩
      go_wp2_with fail
      refine (hIn.out _).mono ?_; rintro e w' ⟨rfl, rfl⟩
      go_wp2_with fail
      refine (hTr.out _).mono ?_; rintro e w1 ⟨rfl, B1⟩
      go_wp2
      go_ret2
      exact ⟨0, rfl, (fun m h => by cases h), B1⟩
    · have f2' := Lib.hid (fun n => f2 n ⟨h1, h2⟩)
      have f3' := Lib.hid (fun n => f3 n ⟨h1, h2⟩)
      have f4' := Lib.hid f4
      have hbd' := Lib.hid hbd
      clear f1 f2 f3 f4 hbd hd1
      go_enter Tryz.func121, Tryz.ntmps121
      go_wp2_with fail
      refine hTP.out.mono ?_; rintro e w' ⟨rfl, rfl⟩
      go_wp2_with fail
      refine (hIn.out _).mono ?_; rintro e w' ⟨rfl, rfl⟩
      go_wp2_with fail
      refine (hTr.out _).mono ?_; rintro e w1 ⟨rfl, B1⟩
      have hE1 := hE.below B1
      have hT1 := hT.below B1
      clear hE hT hTr hIn hTP
      go_wp2_with fail
      refine (hAt.out _ hE1).mono ?_; rintro e w2 (⟨n, hn, rfl, B2⟩ | ⟨hn, T, N, rfl, B2⟩)
      · have hT2 := hT1.below B2
        have B := below_next B1 B2
        obtain ⟨n0, n1⟩ := hbd'.out n hn
        have hit := Lib.hid (fun W h => itoa_c n W h (by omega) (by omega))
        have hEq : (itoaS n).toList = Lib.itoa n := by rw [ByteArray.toList_eq]; simp [itoaS]
        by_cases hq : Lib.itoa n = s.data.toList
        · obtain rfl := f2'.out n hn hq
          have hq2 : ((itoaS n).toList == s.toList) = true := by rw [hEq, ← hsl, hq]; simp
          have hq3 : (itoaS n).toList = s.toList := by rw [hEq, ← hsl, hq]
          clear hE1 hT1 B1 B2 hAt hbd' f2' f3' f4' hEq hq hn
          generalize itoaS n = I at *
          go_wp2_with fail
          refine (hit.out _ hT2).mono ?_; rintro e w3 ⟨rfl, B3⟩
          go_wp2
          go_ret2
          exact ⟨n, by first | rfl | simp [*], (fun m h => by injection h), below_next B B3⟩
        · obtain rfl := f3'.out n hn hq
          have hq3 : ¬ (itoaS n).toList = s.toList := by rw [hEq, ← hsl]; exact hq
          have hq2 : ((itoaS n).toList == s.toList) = false := by simpa using hq3
          clear hE1 hT1 B1 B2 hAt hbd' f2' f3' f4' hEq hq hn
          generalize itoaS n = I at *
          go_wp2_with fail
          refine (hit.out _ hT2).mono ?_; rintro e w3 ⟨rfl, B3⟩
          go_wp2
          go_ret2
          exact ⟨n, by first | rfl | simp [*], (fun m h => by cases h), below_next B B3⟩
      · have B := below_next B1 B2
        obtain rfl := f4'.out hn
        clear hE1 hT1 B1 B2 hAt hbd' f2' f3' f4' hn
        go_wp2
        go_ret2
        exact ⟨0, by first | rfl | simp [*], (fun m h => by cases h), B⟩
  · have hd1 : (decide (1 ≤ (t.size : Int) ∧ (t.size : Int) ≤ most)) = false := decide_eq_false (by omega)
    rw [hd1] at hIn
    obtain rfl := f1 (by intro hc; exact h1 hc.1)
    clear f1 f2 f3 f4 hbd hd1
    go_enter Tryz.func121, Tryz.ntmps121
    go_wp2_with fail
    refine hTP.out.mono ?_; rintro e w' ⟨rfl, rfl⟩
    go_wp2_with fail
    refine (hIn.out _).mono ?_; rintro e w' ⟨rfl, rfl⟩
    go_wp2
    go_ret2
    exact ⟨0, rfl, (fun m h => by cases h), Below.refl _ _⟩
set_option maxRecDepth 100000 in
/-- tumbref1.Int of any string -/
theorem intL_c (s : ByteArray) (most : Nat) (w : World) (hm : most ≤ 17) (hT : Tb w) (hE : Ex w) : Calls Tryz.prog 121 #[.string s, .int .i64 most] w fun e w' => ∃ v, e = .returned (.tuple #[.int .i64 v, .bool (numP s.data.toList most).isSome]) ∧ (∀ m, numP s.data.toList most = some m → v = m) ∧ Below w.heap.size w w' := by
  rw [← intQ_num]
  by_cases hs : s.size ≤ 18
  · exact intQ18_c s most w hs hT hE
  · have h := Lib.size_eq s
    rw [intQ_num, num_long (l := s.data.toList) (most := most) (by omega)]
    have hTP := Lib.hid (Tryz.strings_TrimPrefix s ⟨#[45]⟩ w)
    rw [show (⟨#[45]⟩ : ByteArray).data.toList = [45] from rfl] at hTP
    obtain ⟨t1, t2, t3⟩ := trimP_len s
    clear t3
    generalize (⟨(Lib.trimPrefix s.data.toList [45]).toArray⟩ : ByteArray) = t at *
    have hIn := Lib.hid (fun W => in_c (t.size : Int) 1 most W)
    have hd1 : (decide (1 ≤ (t.size : Int) ∧ (t.size : Int) ≤ most)) = false := decide_eq_false (by omega)
    rw [hd1] at hIn
    clear hd1 t1 t2 hs h hT hE
    go_enter Tryz.func121, Tryz.ntmps121
    go_wp2_with fail
    refine hTP.out.mono ?_; rintro e w' ⟨rfl, rfl⟩
    go_wp2_with fail
    refine (hIn.out _).mono ?_; rintro e w' ⟨rfl, rfl⟩
    go_wp2
    go_ret2
    exact ⟨0, rfl, (fun m h => by cases h), Below.refl _ _⟩
theorem spl_len (c : UInt8) : ∀ l : List UInt8, (spl c l).length = l.count c + 1
  | [] => rfl
  | b :: r => by
    have h := spl_len c r
    unfold spl
    by_cases e : b = c
    · rw [if_pos e, List.length_cons, h, e, List.count_cons_self]
    · rw [if_neg e, List.count_cons_of_ne e]
      split
      · rename_i e9
        exact absurd e9 (spl_ne c r)
      · rename_i e9
        rw [e9] at h
        simp only [List.length_cons] at h ⊢
        exact h
def bL (s : ByteArray) : List UInt8 := s.data.toList
/-- strings.Split at one byte -/
theorem splitS_c (c : UInt8) (s : ByteArray) (w : World) (hs : s.size < 4294967281) (hM : Mx w) : Calls Tryz.prog 91 #[.string s, .string ⟨#[c]⟩] w fun e w' => ∃ A n L, e = .returned (.slice A n n) ∧ RS 9 w' A n L ∧ L.map bL = spl c s.data.toList ∧ n ≤ s.size + 1 ∧ (A = none → n = 0) ∧ Below w.heap.size w w' := by
  obtain ⟨m, hm⟩ := hM
  refine (Tryz.strings_Split s ⟨#[c]⟩ m w hs hm (by show 1 ≤ 1; exact Nat.le_refl _)).mono ?_
  rintro e w' ⟨rfl, rfl⟩
  have hL : (Lib.splitB ⟨#[c]⟩ 0 (Lib.countB s ⟨#[c]⟩) s).map bL = spl c s.data.toList := by
    show (Lib.splitB ⟨#[c]⟩ 0 (Lib.countB s ⟨#[c]⟩) s).map (·.data.toList) = _
    rw [Lib.splitB_data]
    exact splitK_spl c _ _ rfl
  have hn : (Lib.splitB ⟨#[c]⟩ 0 (Lib.countB s ⟨#[c]⟩) s).length = Lib.countB s ⟨#[c]⟩ + 1 := by
    rw [← List.length_map bL, hL, spl_len, ← count_one]
  have h9 : s.data.toList.count c ≤ s.data.toList.length := List.count_le_length
  have hz := Lib.size_eq s
  have hk : Lib.countB s ⟨#[c]⟩ + 1 ≤ s.size + 1 := by
    rw [← hn, ← List.length_map bL, hL, spl_len]; omega
  refine ⟨_, _, _, rfl, ?_, hL, hk, (fun h => by cases h), below_new w _⟩
  have := R1.litAt (enc := Value.string) (e := 9) w w.heap.size ((Lib.splitB ⟨#[c]⟩ 0 (Lib.countB s ⟨#[c]⟩) s).map Value.string).toArray (Lib.splitB ⟨#[c]⟩ 0 (Lib.countB s ⟨#[c]⟩) s) rfl rfl (by rw [hn]; omega)
  rw [hn] at this
  exact this
theorem emp_iff (s : ByteArray) : (s.toList == ([] : List UInt8)) = decide (bL s = []) := by
  rw [ByteArray.toList_eq]
  unfold bL
  cases s.data.toList <;> rfl
/-- words.Split -/
def RetWs (w : World) (ps : List (List UInt8)) (e : Ending) (w' : World) : Prop := ∃ A n L, e = .returned (.tuple #[.slice A n n, .bool (decide (([] : List UInt8) ∉ ps))]) ∧ RS 9 w' A n L ∧ (([] : List UInt8) ∉ ps → L.map bL = ps) ∧ Below w.heap.size w w'
set_option maxRecDepth 100000 in
theorem wordsSplit_c (s : ByteArray) (w : World) (hs : s.size < 4294967281) (hM : Mx w) : Calls Tryz.prog 117 #[.string s] w (RetWs w (spl 32 s.data.toList)) := by
  have hSp := Lib.hid (splitS_c 32 s w hs hM)
  generalize hps : spl 32 s.data.toList = ps at *
  clear hps hM
  unfold RetWs
  obtain ⟨D, hD0⟩ : ∃ D, decide (([] : List UInt8) ∉ ps) = D := ⟨_, rfl⟩
  rw [hD0]
  have hD := Lib.hid hD0
  clear hD0
  go_enter Tryz.func117, Tryz.ntmps117
  go_wp2_with fail
  refine hSp.out.mono ?_; rintro e w1 ⟨A, n, L, rfl, hR, hL, hn, hA, B1⟩
  have hLn := hR.len
  have hL' := Lib.hid hL
  clear hSp hL
  go_wp2_with fail
  go_loopw [6, 11] (fun _ i wr => ∃ k : Nat, k ≤ n ∧ i = .int .i64 k ∧ w1 = wr ∧ Hid (∀ x ∈ L.take k, bL x ≠ [])) (fun _ i _ => n - (intOf i).toNat)
  case atStart => exact ⟨0, Nat.zero_le _, rfl, rfl, Lib.hid (fun x hx => by simp at hx)⟩
  case round =>
    rename World => wr
    obtain ⟨k, hk, rfl, rfl, hF⟩ := hrel
    by_cases hlt : k < n
    · obtain ⟨b, off, x, rfl, hbl, hx, c0⟩ := hR.at_ (k := k) hlt
      by_cases hx0 : bL x = []
      · have e1 : (x.toList == ([] : List UInt8)) = true := by rw [emp_iff]; exact decide_eq_true hx0
        have e2 : x.toList = [] := by simpa using e1
        have hin : ([] : List UInt8) ∈ ps := by rw [← hL'.out, ← hx0]; exact List.mem_map.2 ⟨x, List.mem_of_getElem? hx, rfl⟩
        obtain rfl : D = false := hD.out.symm.trans (decide_eq_false (not_not_intro hin))
        have hin' := Lib.hid hin
        clear hin hx hx0 hD
        go_wp2
        go_ret2
        exact ⟨none, 0, [], rfl, R1.nil_ _ _ _ _, (fun h => absurd hin'.out h), B1⟩
      · have e1 : (x.toList == ([] : List UInt8)) = false := by rw [emp_iff]; exact decide_eq_false hx0
        have e2 : x.toList ≠ [] := by simpa using e1
        have hF2 := Lib.hid (show ∀ y ∈ L.take (k + 1), bL y ≠ [] from fun y hy => by
          rw [List.take_add_one, hx] at hy
          rcases List.mem_append.1 hy with hy | hy
          · exact hF.out y hy
          · simp at hy; subst hy; exact hx0)
        clear hx hx0 hF
        go_wp2
        go_roundw
        case rel => exact ⟨k + 1, by omega, by go_num, by first | rfl | trivial, hF2⟩
        case measure => simp [intOf]; omega
    · obtain rfl : k = n := by omega
      have hno : ([] : List UInt8) ∉ ps := by
        rw [← hL'.out]
        intro h
        obtain ⟨x, hx, e⟩ := List.mem_map.1 h
        exact hF.out x (by rw [List.take_of_length_le (by omega)]; exact hx) e
      obtain rfl : D = true := hD.out.symm.trans (decide_eq_true hno)
      have hL2 := Lib.hid hL'.out
      clear hno hF hD hL'
      go_wp2
      go_ret2
      exact ⟨A, k, L, rfl, hR, (fun _ => hL2.out), B1⟩
theorem numsP_at {most : Nat} {L : List (List UInt8)} {k : Nat} {x : List UInt8} {acc : List Int} {R : Option (List Int)} (hF : R = (numsP (L.drop k) most).map (acc ++ ·)) (hx : L[k]? = some x) :
    (numP x most = none → R = none) ∧ ∀ n, numP x most = some n → R = (numsP (L.drop (k + 1)) most).map ((acc ++ [n]) ++ ·) := by
  rw [hF, drop_at hx]
  constructor
  · intro h
    simp only [numsP, h]
    rfl
  · intro n h
    simp only [numsP, h]
    cases numsP (L.drop (k + 1)) most <;> simp
/-- words.Numbers, tumbref1.Ints -/
def RetNs (w : World) (R : Option (List Int)) (e : Ending) (w' : World) : Prop := ∃ A n c, e = .returned (.tuple #[.slice A n c, .bool R.isSome]) ∧ w'.ownsRow w.heap.size 3 1 (.slice A n c) n (ints (R.getD [])) ∧ (R = none → A = none ∧ n = 0 ∧ c = 0) ∧ Below w.heap.size w w'
set_option maxHeartbeats 1600000 in
set_option maxRecDepth 100000 in
theorem numbers_c (A : Option Addr) (n c most : Nat) (L : List ByteArray) (w : World) (h : RS 9 w A n L) (hm : most ≤ 17) (hn : n ≤ 1000000) : Calls Tryz.prog 118 #[.slice A n c, .int .i64 most] w (RetNs w (numsP (L.map bL) most)) := by
  have hR := Lib.hid (fun W B => h.below (w' := W) B)
  have hl := Lib.hid h.len
  obtain ⟨R, hR0⟩ : ∃ R, numsP (L.map bL) most = R := ⟨_, rfl⟩
  rw [hR0]
  have hF0 := Lib.hid (show R = (numsP ((L.map bL).drop 0) most).map (([] : List Int) ++ ·) by rw [← hR0, List.drop_zero]; simp)
  clear hR0  h
  unfold RetNs
  go_enter Tryz.func118, Tryz.ntmps118
  go_wp2_with fail
  go_loopw [6, 13] (fun u i wr => ∃ (k : Nat) (acc : List Int), k ≤ n ∧ i = .int .i64 k ∧ acc.length = k ∧ wr.ownsRow w.heap.size 3 1 u k (ints acc) ∧ Below w.heap.size w wr ∧ Hid (R = (numsP ((L.map bL).drop k) most).map (acc ++ ·))) (fun _ i _ => n - (intOf i).toNat)
  case atStart => exact ⟨0, [], Nat.zero_le _, rfl, rfl, World.ownsRow_nil _ _ _ _, Below.refl _ _, hF0⟩
  case round =>
    clear hF0
    rename World => wr
    obtain ⟨k, acc, hk, rfl, hak, hown, hB, hF⟩ := hrel
    by_cases hlt : k < n
    · obtain ⟨b, off, x, rfl, hbl, hx, c0⟩ := (hR.out _ hB).at_ (k := k) hlt
      have hx1 : (L.map bL)[k]? = some (bL x) := by rw [List.getElem?_map, hx]; rfl
      have hS := numsP_at hF.out hx1
      have hNu := Lib.hid (numberL_c x most wr hm)
      unfold bL at hS
      cases hP : numP x.data.toList most with
      | none =>
        obtain rfl := hS.1 hP
        rw [hP] at hNu
        clear hS hx hx1 hF hown hP
        go_wp2_with fail
        refine hNu.out.mono ?_; rintro e w1 ⟨rfl, B1⟩
        have hB1 := below_next hB B1
        go_wp2
        go_ret2
        exact ⟨none, 0, 0, rfl, World.ownsRow_nil _ _ _ _, (by first | exact fun _ => ⟨rfl, rfl, rfl⟩ | exact ⟨rfl, rfl, rfl⟩), hB1⟩
      | some v =>
        have hF2 := Lib.hid (hS.2 v hP)
        rw [hP] at hNu
        clear hS hx hx1 hF hP
        go_wp2_with fail
        refine hNu.out.mono ?_; rintro e w1 ⟨rfl, B1⟩
        have hB1 := below_next hB B1
        have hown1 := own_below hown B1
        have hz := hB1.size
        clear hB B1 hNu hown
        go_wp2_with (at_builtin; refine wpList_app rfl (.tmp 25) (.tmp 27) 22 rfl Tryz.underlying22 info_int rfl (by omega) (by omega) hown1 rfl rfl rfl rfl (by simp [Value.oneCell']) (by omega) hz ?_; intro v4 w4 hown4 hg4)
        have hB4 := below_own hB1 hown1 hg4 hz (Nat.le_refl _)
        go_roundw
        case rel => exact ⟨k + 1, acc ++ [v], by omega, by go_num, by rw [List.length_append, hak]; rfl, by rw [ints_app]; exact hown4, hB4, hF2⟩
        case measure => simp [intOf]; omega
    · obtain rfl : k = n := by omega
      have hRe : R = some acc := by
        have h9 := hF.out
        rw [List.drop_of_length_le (by rw [List.length_map, hl.out]; exact Nat.le_refl _)] at h9
        rw [h9]; simp [numsP]
      subst hRe
      obtain ⟨A9, c9, rfl⟩ := own_shape hown
      clear hF
      go_wp2
      go_ret2
      exact ⟨A9, k, c9, rfl, hown, (fun h => by cases h), hB⟩
set_option maxHeartbeats 1600000 in
set_option maxRecDepth 100000 in
theorem intsW_c (A : Option Addr) (n c most : Nat) (L : List ByteArray) (w : World) (h : RS 9 w A n L) (hm : most ≤ 17) (hn : n ≤ 1000000) (hT : Tb w) (hE : Ex w) : Calls Tryz.prog 94 #[.slice A n c, .int .i64 most] w (RetNs w (numsP (L.map bL) most)) := by
  have hR := Lib.hid (fun W B => h.below (w' := W) B)
  have hl := Lib.hid h.len
  have hTb := Lib.hid (fun W B => hT.below (w' := W) B)
  have hEx := Lib.hid (fun W B => hE.below (w' := W) B)
  obtain ⟨R, hR0⟩ : ∃ R, numsP (L.map bL) most = R := ⟨_, rfl⟩
  rw [hR0]
  have hF0 := Lib.hid (show R = (numsP ((L.map bL).drop 0) most).map (([] : List Int) ++ ·) by rw [← hR0, List.drop_zero]; simp)
  clear hR0 hT hE h
  unfold RetNs
  go_enter Tryz.func94, Tryz.ntmps94
  go_wp2_with fail
  go_loopw [6, 13] (fun u i wr => ∃ (k : Nat) (acc : List Int), k ≤ n ∧ i = .int .i64 k ∧ acc.length = k ∧ wr.ownsRow w.heap.size 3 1 u k (ints acc) ∧ Below w.heap.size w wr ∧ Hid (R = (numsP ((L.map bL).drop k) most).map (acc ++ ·))) (fun _ i _ => n - (intOf i).toNat)
  case atStart => exact ⟨0, [], Nat.zero_le _, rfl, rfl, World.ownsRow_nil _ _ _ _, Below.refl _ _, hF0⟩
  case round =>
    clear hF0
    rename World => wr
    obtain ⟨k, acc, hk, rfl, hak, hown, hB, hF⟩ := hrel
    by_cases hlt : k < n
    · obtain ⟨b, off, x, rfl, hbl, hx, c0⟩ := (hR.out _ hB).at_ (k := k) hlt
      have hx1 : (L.map bL)[k]? = some (bL x) := by rw [List.getElem?_map, hx]; rfl
      have hS := numsP_at hF.out hx1
      have hNu := Lib.hid (intL_c x most wr hm (hTb.out _ hB) (hEx.out _ hB))
      unfold bL at hS
      cases hP : numP x.data.toList most with
      | none =>
        obtain rfl := hS.1 hP
        rw [hP] at hNu
        clear hS hx hx1 hF hown hP
        go_wp2_with fail
        refine hNu.out.mono ?_; rintro e w1 ⟨v, rfl, _, B1⟩
        have hB1 := below_next hB B1
        go_wp2
        go_ret2
        exact ⟨none, 0, 0, rfl, World.ownsRow_nil _ _ _ _, (by first | exact fun _ => ⟨rfl, rfl, rfl⟩ | exact ⟨rfl, rfl, rfl⟩), hB1⟩
      | some v =>
        have hF2 := Lib.hid (hS.2 v hP)
        rw [hP] at hNu
        clear hS hx hx1 hF hP
        go_wp2_with fail
        refine hNu.out.mono ?_; rintro e w1 ⟨v', rfl, hv', B1⟩; obtain rfl : v = v' := (hv' v rfl).symm
        have hB1 := below_next hB B1
        have hown1 := own_below hown B1
        have hz := hB1.size
        clear hB B1 hNu hown
        go_wp2_with (at_builtin; refine wpList_app rfl (.tmp 25) (.tmp 27) 22 rfl Tryz.underlying22 info_int rfl (by omega) (by omega) hown1 rfl rfl rfl rfl (by simp [Value.oneCell']) (by omega) hz ?_; intro v4 w4 hown4 hg4)
        have hB4 := below_own hB1 hown1 hg4 hz (Nat.le_refl _)
        go_roundw
        case rel => exact ⟨k + 1, acc ++ [v], by omega, by go_num, by rw [List.length_append, hak]; rfl, by rw [ints_app]; exact hown4, hB4, hF2⟩
        case measure => simp [intOf]; omega
    · obtain rfl : k = n := by omega
      have hRe : R = some acc := by
        have h9 := hF.out
        rw [List.drop_of_length_le (by rw [List.length_map, hl.out]; exact Nat.le_refl _)] at h9
        rw [h9]; simp [numsP]
      subst hRe
      obtain ⟨A9, c9, rfl⟩ := own_shape hown
      clear hF
      go_wp2
      go_ret2
      exact ⟨A9, k, c9, rfl, hown, (fun h => by cases h), hB⟩
theorem cutL_c (s : ByteArray) (c : UInt8) (m : Int) (w : World) (hm : w.cell? ⟨0, 0, none⟩ = some (.int .i64 m)) (hs : s.size < 4294967281) : Calls Tryz.prog 116 #[.string s, .string ⟨#[c]⟩] w fun e w' => e = .returned (.tuple #[.string ⟨(Lib.cut s.data.toList [c]).1.toArray⟩, .string ⟨(Lib.cut s.data.toList [c]).2.1.toArray⟩, .bool (Lib.cut s.data.toList [c]).2.2]) ∧ ∃ q, w' = w.drewN q := Tryz.strings_Cut s ⟨#[c]⟩ m w hs hm
theorem lnR_zero (ok : List UInt8 → Bool) {t : List UInt8} (h : (lnR ok t).2.2 = true) : (lnR ok t).2.1 = 0 := by
  by_cases ht : t = []
  · rw [ht]; rfl
  · rw [lnR_step ok ht] at h ⊢
    by_cases h1 : (Lib.cut t [10]).2.2 = false
    · rw [if_pos h1] at h; cases h
    · rw [if_neg h1] at h ⊢
      by_cases h2 : ok (Lib.cut t [10]).1 = false
      · rw [if_pos h2] at h; cases h
      · rw [if_neg h2] at h ⊢
        exact if_pos h
/-- words.Lines, tumbref1.Lines, over any taking closure -/
structure TakeL (N F : Nat) (caps : Array Value) (ok : List UInt8 → Bool) (I : List (List UInt8) → World → Prop) : Prop where
  enters : ∀ (args : Array Value) (W : World), (callFunc F args).run Tryz.prog W = .ok (.enter F args) W
  call : ∀ (L : List (List UInt8)) (s : ByteArray) (W : World), I L W → L.length ≤ N → s.size ≤ N → Calls Tryz.prog F (#[.string s] ++ caps) W fun e w' => e = .returned (.bool (ok s.data.toList)) ∧ I (L ++ [s.data.toList]) w'
  drew : ∀ L W q, I L W → I L (W.drewN q)
  mx : ∀ L W, I L W → Mx W
def RetLn (I : List (List UInt8) → World → Prop) (R : List (List UInt8) × Nat × Bool) (e : Ending) (w' : World) : Prop := e = .returned (.tuple #[.int .i64 R.2.1, .bool R.2.2]) ∧ I R.1 w'
set_option maxHeartbeats 3200000 in
set_option maxRecDepth 100000 in
theorem wordsLines_c {N F : Nat} {caps : Array Value} {ok : List UInt8 → Bool} {I : List (List UInt8) → World → Prop} (hT : TakeL N F caps ok I) (s : ByteArray) (w : World) (h0 : I [] w) (hs : s.size ≤ N) (hN9 : N ≤ 4000000000) : Calls Tryz.prog 86 #[.string s, .func (.func F) #[] caps] w (RetLn I (lnR ok s.data.toList)) := by
  have hs' := Lib.size_eq s
  have hC := Lib.hid hT.call
  have hD := Lib.hid hT.drew
  have hMx := Lib.hid hT.mx
  have hcf := hT.enters
  have hCut := Lib.hid (fun t m W hm hs => cutL_c t 10 m W hm hs)
  have hSt := Lib.hid (fun (t : List UInt8) (ht : t ≠ []) => lnR_step ok ht)
  have hN := Lib.hid (lnR_nil ok)
  have hZ := Lib.hid (fun t => lnR_zero ok (t := t))
  have hsL := Lib.hid (show lnR ok s.data.toList = ((lnR ok s.data.toList).1, (lnR ok s.data.toList).2.1, (lnR ok s.data.toList).2.2) from rfl)
  obtain ⟨R, hR⟩ : ∃ R, lnR ok s.data.toList = R := ⟨_, rfl⟩
  rw [hR]
  have hR' := Lib.hid hR
  clear hsL hR
  generalize lnR ok = LR at *
  unfold RetLn
  go_enter Tryz.func86, Tryz.ntmps86
  go_wp2_with fail
  go_loopw [0, 6, 7, 8, 9] (fun tv iv _ _ _ wr => ∃ (t : ByteArray) (k : Nat) (tk : List (List UInt8)), tv = .string t ∧ iv = .int .i64 k ∧ tk.length = k ∧ I tk wr ∧ t.size + k ≤ s.size ∧ Hid (R = (tk ++ (LR t.data.toList).1, if (LR t.data.toList).2.2 = true then 0 else (LR t.data.toList).2.1 + k, (LR t.data.toList).2.2))) (fun tv _ _ _ _ _ => (match tv with | .string t => t.size | _ => 0))
  case atStart => exact ⟨s, 0, [], rfl, rfl, rfl, h0, by omega, Lib.hid (by
    rw [List.nil_append, Nat.add_zero, ← hR'.out]
    have h9 := hZ.out s.data.toList
    rw [hR'.out] at h9 ⊢
    obtain ⟨a, b, c⟩ := R
    cases c
    · rfl
    · obtain rfl : b = 0 := h9 rfl
      rfl)⟩
  case round =>
    clear h0
    rename World => wr
    obtain ⟨t, k, tk, rfl, rfl, hk, hI, hsz, hF⟩ := hrel
    obtain ⟨m, hm⟩ := hMx.out _ _ hI
    have hts := Lib.size_eq t
    by_cases ht : t.data.toList = []
    · have e1 : (t.toList == ([] : List UInt8)) = true := by rw [ByteArray.toList_eq, ht]; rfl
      have e2 : t.toList = [] := by rw [ByteArray.toList_eq, ht]
      have hF2 := hF.out
      rw [ht, hN.out, List.append_nil] at hF2
      dsimp only at hF2
      obtain rfl : R = (tk, 0, true) := hF2.trans (by simp)
      clear hF2 hF ht
      go_wp2
      go_ret2
      exact ⟨rfl, hI⟩
    · have e1 : (t.toList == ([] : List UInt8)) = false := by rw [beq_eq_false_iff_ne, ByteArray.toList_eq]; exact ht
      have e2 : t.toList ≠ [] := by rw [ByteArray.toList_eq]; exact ht
      have hS := hSt.out _ ht
      have hCt := Lib.hid (hCut.out t m wr hm (by omega))
      have hlt := fun h => cut_true (t := t.data.toList) h
      obtain ⟨cu, hcu⟩ : ∃ cu, Lib.cut t.data.toList [10] = cu := ⟨_, rfl⟩
      rw [hcu] at hS hCt hlt
      obtain ⟨a, b, c⟩ := cu
      dsimp only at hS hCt hlt
      have hF2 := hF.out
      rw [hS] at hF2
      have hD1 := Lib.hid (fun q => hD.out tk wr q hI)
      cases c
      · rw [if_pos rfl] at hF2
        dsimp only at hF2
        obtain rfl : R = (tk, k, false) := hF2.trans (by simp)
        clear hF2 hF ht hS hlt hcu hI hm
        go_wp2_with fail
        refine hCt.out.mono ?_; rintro e w1 ⟨rfl, q, rfl⟩
        go_wp2
        go_ret2
        exact ⟨rfl, hD1.out q⟩
      · rw [if_neg (by decide)] at hF2
        obtain ⟨hl1, _⟩ := hlt rfl
        have hbl : b.length + 1 ≤ t.data.toList.length := by
          have := congrArg List.length hl1
          rw [List.length_append, List.length_cons] at this
          omega
        have has : (⟨a.toArray⟩ : ByteArray).size = a.length := by show a.toArray.size = _; simp
        have hal : a.length ≤ t.data.toList.length := by
          have := congrArg List.length hl1
          rw [List.length_append, List.length_cons] at this
          omega
        have hCl := Lib.hid (fun q => hC.out tk ⟨a.toArray⟩ _ (hD1.out q) (by omega) (by omega))
        clear has hal
        have hda : (⟨a.toArray⟩ : ByteArray).data.toList = a := by simp
        have hdb : (⟨b.toArray⟩ : ByteArray).data.toList = b := by simp
        have hbs : (⟨b.toArray⟩ : ByteArray).size = b.length := by show b.toArray.size = _; simp
        rw [hda] at hCl
        cases hok : ok a
        · rw [hok, if_pos rfl] at hF2
          rw [hok] at hCl
          dsimp only at hF2
          obtain rfl : R = (tk ++ [a], k, false) := hF2.trans (by simp)
          clear hF2 hF ht hS hlt hcu hI hm hda hdb hbs hbl hl1
          go_wp2_with fail
          refine hCt.out.mono ?_; rintro e w1 ⟨rfl, q, rfl⟩
          go_wp2_with fail
          refine (hCl.out q).mono ?_; rintro e w2 ⟨rfl, hI2⟩
          go_wp2
          go_ret2
          exact ⟨rfl, hI2⟩
        · rw [hok, if_neg (by decide)] at hF2
          rw [hok] at hCl
          dsimp only at hF2
          have hF3 := Lib.hid (show R = ((tk ++ [a]) ++ (LR (⟨b.toArray⟩ : ByteArray).data.toList).1, if (LR (⟨b.toArray⟩ : ByteArray).data.toList).2.2 = true then 0 else (LR (⟨b.toArray⟩ : ByteArray).data.toList).2.1 + (k + 1), (LR (⟨b.toArray⟩ : ByteArray).data.toList).2.2) by
            rw [hdb, hF2, List.append_assoc]
            refine Prod.ext rfl (Prod.ext ?_ rfl)
            dsimp only
            split
            · rfl
            · omega)
          clear hF2 hF ht hS hlt hcu hI hm hda hdb hl1
          go_wp2_with fail
          refine hCt.out.mono ?_; rintro e w1 ⟨rfl, q, rfl⟩
          go_wp2_with fail
          refine (hCl.out q).mono ?_; rintro e w2 ⟨rfl, hI2⟩
          go_wp2
          go_roundw
          case rel => exact ⟨⟨b.toArray⟩, k + 1, tk ++ [a], rfl, by go_num, by rw [List.length_append, hk]; rfl, hI2, by omega, hF3⟩
          case measure => show (⟨b.toArray⟩ : ByteArray).size < t.size; omega
set_option maxHeartbeats 3200000 in
set_option maxRecDepth 100000 in
theorem refLines_c {N F : Nat} {caps : Array Value} {ok : List UInt8 → Bool} {I : List (List UInt8) → World → Prop} (hT : TakeL N F caps ok I) (s : ByteArray) (w : World) (h0 : I [] w) (hs : s.size ≤ N) (hN9 : N ≤ 4000000000) : Calls Tryz.prog 89 #[.string s, .func (.func F) #[] caps] w (RetLn I (lnR ok s.data.toList)) := by
  have hs' := Lib.size_eq s
  have hC := Lib.hid hT.call
  have hD := Lib.hid hT.drew
  have hMx := Lib.hid hT.mx
  have hcf := hT.enters
  have hCut := Lib.hid (fun t m W hm hs => cutL_c t 10 m W hm hs)
  have hSt := Lib.hid (fun (t : List UInt8) (ht : t ≠ []) => lnR_step ok ht)
  have hN := Lib.hid (lnR_nil ok)
  have hZ := Lib.hid (fun t => lnR_zero ok (t := t))
  have hsL := Lib.hid (show lnR ok s.data.toList = ((lnR ok s.data.toList).1, (lnR ok s.data.toList).2.1, (lnR ok s.data.toList).2.2) from rfl)
  obtain ⟨R, hR⟩ : ∃ R, lnR ok s.data.toList = R := ⟨_, rfl⟩
  rw [hR]
  have hR' := Lib.hid hR
  clear hsL hR
  generalize lnR ok = LR at *
  unfold RetLn
  go_enter Tryz.func89, Tryz.ntmps89
  go_wp2_with fail
  go_loopw [0, 6, 7, 8, 9] (fun tv iv _ _ _ wr => ∃ (t : ByteArray) (k : Nat) (tk : List (List UInt8)), tv = .string t ∧ iv = .int .i64 k ∧ tk.length = k ∧ I tk wr ∧ t.size + k ≤ s.size ∧ Hid (R = (tk ++ (LR t.data.toList).1, if (LR t.data.toList).2.2 = true then 0 else (LR t.data.toList).2.1 + k, (LR t.data.toList).2.2))) (fun tv _ _ _ _ _ => (match tv with | .string t => t.size | _ => 0))
  case atStart => exact ⟨s, 0, [], rfl, rfl, rfl, h0, by omega, Lib.hid (by
    rw [List.nil_append, Nat.add_zero, ← hR'.out]
    have h9 := hZ.out s.data.toList
    rw [hR'.out] at h9 ⊢
    obtain ⟨a, b, c⟩ := R
    cases c
    · rfl
    · obtain rfl : b = 0 := h9 rfl
      rfl)⟩
  case round =>
    clear h0
    rename World => wr
    obtain ⟨t, k, tk, rfl, rfl, hk, hI, hsz, hF⟩ := hrel
    obtain ⟨m, hm⟩ := hMx.out _ _ hI
    have hts := Lib.size_eq t
    by_cases ht : t.data.toList = []
    · have e1 : (t.toList == ([] : List UInt8)) = true := by rw [ByteArray.toList_eq, ht]; rfl
      have e2 : t.toList = [] := by rw [ByteArray.toList_eq, ht]
      have hF2 := hF.out
      rw [ht, hN.out, List.append_nil] at hF2
      dsimp only at hF2
      obtain rfl : R = (tk, 0, true) := hF2.trans (by simp)
      clear hF2 hF ht
      go_wp2
      go_ret2
      exact ⟨rfl, hI⟩
    · have e1 : (t.toList == ([] : List UInt8)) = false := by rw [beq_eq_false_iff_ne, ByteArray.toList_eq]; exact ht
      have e2 : t.toList ≠ [] := by rw [ByteArray.toList_eq]; exact ht
      have hS := hSt.out _ ht
      have hCt := Lib.hid (hCut.out t m wr hm (by omega))
      have hlt := fun h => cut_true (t := t.data.toList) h
      obtain ⟨cu, hcu⟩ : ∃ cu, Lib.cut t.data.toList [10] = cu := ⟨_, rfl⟩
      rw [hcu] at hS hCt hlt
      obtain ⟨a, b, c⟩ := cu
      dsimp only at hS hCt hlt
      have hF2 := hF.out
      rw [hS] at hF2
      have hD1 := Lib.hid (fun q => hD.out tk wr q hI)
      cases c
      · rw [if_pos rfl] at hF2
        dsimp only at hF2
        obtain rfl : R = (tk, k, false) := hF2.trans (by simp)
        clear hF2 hF ht hS hlt hcu hI hm
        go_wp2_with fail
        refine hCt.out.mono ?_; rintro e w1 ⟨rfl, q, rfl⟩
        go_wp2
        go_ret2
        exact ⟨rfl, hD1.out q⟩
      · rw [if_neg (by decide)] at hF2
        obtain ⟨hl1, _⟩ := hlt rfl
        have hbl : b.length + 1 ≤ t.data.toList.length := by
          have := congrArg List.length hl1
          rw [List.length_append, List.length_cons] at this
          omega
        have has : (⟨a.toArray⟩ : ByteArray).size = a.length := by show a.toArray.size = _; simp
        have hal : a.length ≤ t.data.toList.length := by
          have := congrArg List.length hl1
          rw [List.length_append, List.length_cons] at this
          omega
        have hCl := Lib.hid (fun q => hC.out tk ⟨a.toArray⟩ _ (hD1.out q) (by omega) (by omega))
        clear has hal
        have hda : (⟨a.toArray⟩ : ByteArray).data.toList = a := by simp
        have hdb : (⟨b.toArray⟩ : ByteArray).data.toList = b := by simp
        have hbs : (⟨b.toArray⟩ : ByteArray).size = b.length := by show b.toArray.size = _; simp
        rw [hda] at hCl
        cases hok : ok a
        · rw [hok, if_pos rfl] at hF2
          rw [hok] at hCl
          dsimp only at hF2
          obtain rfl : R = (tk ++ [a], k, false) := hF2.trans (by simp)
          clear hF2 hF ht hS hlt hcu hI hm hda hdb hbs hbl hl1
          go_wp2_with fail
          refine hCt.out.mono ?_; rintro e w1 ⟨rfl, q, rfl⟩
          go_wp2_with fail
          refine (hCl.out q).mono ?_; rintro e w2 ⟨rfl, hI2⟩
          go_wp2
          go_ret2
          exact ⟨rfl, hI2⟩
        · rw [hok, if_neg (by decide)] at hF2
          rw [hok] at hCl
          dsimp only at hF2
          have hF3 := Lib.hid (show R = ((tk ++ [a]) ++ (LR (⟨b.toArray⟩ : ByteArray).data.toList).1, if (LR (⟨b.toArray⟩ : ByteArray).data.toList).2.2 = true then 0 else (LR (⟨b.toArray⟩ : ByteArray).data.toList).2.1 + (k + 1), (LR (⟨b.toArray⟩ : ByteArray).data.toList).2.2) by
            rw [hdb, hF2, List.append_assoc]
            refine Prod.ext rfl (Prod.ext ?_ rfl)
            dsimp only
            split
            · rfl
            · omega)
          clear hF2 hF ht hS hlt hcu hI hm hda hdb hl1
          go_wp2_with fail
          refine hCt.out.mono ?_; rintro e w1 ⟨rfl, q, rfl⟩
          go_wp2_with fail
          refine (hCl.out q).mono ?_; rintro e w2 ⟨rfl, hI2⟩
          go_wp2
          go_roundw
          case rel => exact ⟨⟨b.toArray⟩, k + 1, tk ++ [a], rfl, by go_num, by rw [List.length_append, hk]; rfl, hI2, by omega, hF3⟩
          case measure => show (⟨b.toArray⟩ : ByteArray).size < t.size; omega
end Go.Proofs.YtnkhdofcmanipaaGreatDoor
