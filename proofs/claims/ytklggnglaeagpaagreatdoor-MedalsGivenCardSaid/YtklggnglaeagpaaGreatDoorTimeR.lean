import Derived.Test.YtklggnglaeagpaaGreatDoorTxtP
import Derived.Test.YtklggnglaeagpaaGreatDoorClock
import Derived.Test.YtklggnglaeagpaaGreatDoorReady4
import Derived.IntWalk
import Derived.Lib.AtoiErrMem
import Derived.BigQuiet
import Derived.Deep.QuietTactic
import Derived.Test.YtklggnglaeagpaaGreatDoorRows2
import Derived.Test.YtklggnglaeagpaaGreatDoorFill
import Derived.Lib.ItoaLen
import Derived.Lib.AtoiBound
import Derived.BigGuardPart
/- timing.Write, timing.Parse: the walk. -/
namespace Go.Proofs.YtklggnglaeagpaaGreatDoor
open Go.RowKit
set_option linter.unusedVariables false
set_option linter.unusedSimpArgs false

def digs : List UInt8 := [48, 49, 50, 51, 52, 53, 54, 55, 56, 57]
def trimD (s : ByteArray) : ByteArray := ⟨(Lib.trimS s.data.toList digs).toArray⟩
theorem trimD_c (s : ByteArray) (w : World) (hs : s.size ≤ 1000) : Calls Tryz.prog 224 #[.string s, .string ⟨#[48, 49, 50, 51, 52, 53, 54, 55, 56, 57]⟩] w
    fun e w' => e = .returned (.string (trimD s)) ∧ Below w.heap.size w w' :=
  Any.strings_Trim_laid Tryz.lays160 (by kernel_rfl) s ⟨#[48, 49, 50, 51, 52, 53, 54, 55, 56, 57]⟩ w (by omega) (by decide) (ascii_of_all (by decide))
theorem bytes_of {a b : ByteArray} (h : a.data.toList = b.data.toList) : a = b := by cases a; cases b; congr 1; exact Array.toList_inj.mp h
theorem digs_has (b : UInt8) : digs.contains b = dig b := by
  have h : ∀ n : Fin 256, digs.contains (UInt8.ofNat n.val) = dig (UInt8.ofNat n.val) := by decide +kernel
  have := h ⟨b.toNat, b.toNat_lt⟩
  simpa using this
theorem dropWhile_nil {α : Type} (p : α → Bool) : ∀ (l : List α), l.dropWhile p = [] ↔ ∀ x ∈ l, p x = true
  | [] => by simp
  | x :: l => by
    rw [List.dropWhile_cons]
    by_cases h : p x = true
    · rw [if_pos h, dropWhile_nil p l]; simp [h]
    · rw [if_neg h]; simp [h]
theorem dropWhile_head {α : Type} (p : α → Bool) : ∀ (l : List α) (x : α) (r : List α), l.dropWhile p = x :: r → p x = false
  | [], x, r, h => by simp at h
  | y :: l, x, r, h => by
    rw [List.dropWhile_cons] at h
    by_cases hp : p y = true
    · rw [if_pos hp] at h; exact dropWhile_head p l x r h
    · rw [if_neg hp] at h
      injection h with h1 h2
      subst h1; simpa using hp
theorem trimD_all (s : ByteArray) : (trimD s).data.toList.isEmpty = s.data.toList.all dig := by
  have e1 : (trimD s).data.toList = (s.data.toList.reverse.dropWhile (digs.contains ·)).reverse.dropWhile (digs.contains ·) := by
    simp [trimD, Lib.trimS, Lib.trimLeftS, Lib.trimRightS]
  rw [e1, Bool.eq_iff_iff, List.isEmpty_iff, dropWhile_nil, List.all_eq_true]
  constructor
  · intro h
    have h2 : s.data.toList.reverse.dropWhile (digs.contains ·) = [] := by
      rcases hd : s.data.toList.reverse.dropWhile (digs.contains ·) with _ | ⟨x, r⟩
      · rfl
      · have h3 := dropWhile_head _ _ _ _ hd
        have h4 := h x (by rw [hd]; simp)
        rw [h3] at h4; cases h4
    rw [dropWhile_nil] at h2
    intro x hx
    rw [← digs_has]; exact h2 x (by simpa using hx)
  · intro h x hx
    have h2 : s.data.toList.reverse.dropWhile (digs.contains ·) = [] := by
      rw [dropWhile_nil]
      intro y hy
      rw [digs_has]; exact h y (by simpa using hy)
    rw [h2] at hx
    simp at hx
set_option maxRecDepth 100000 in
theorem pair_c (s : ByteArray) (w : World) (hs : s.size ≤ 1000) : Calls Tryz.prog 371 #[.string s] w fun e w' => e = .returned (.tuple #[.int .i64 ((pairP s.data.toList).getD 0), .bool (pairP s.data.toList).isSome]) ∧ Below w.heap.size w w' := by
  have hT := Lib.hid (trimD_c s w hs)
  have hA := trimD_all s
  by_cases h2 : s.size = 2
  · obtain ⟨⟨l⟩⟩ := s
    obtain ⟨a, b, rfl⟩ : ∃ a b, l = [a, b] := by
      rcases l with _ | ⟨a, _ | ⟨b, _ | ⟨c, l⟩⟩⟩
      · simp [ByteArray.size] at h2
      · simp [ByteArray.size] at h2
      · exact ⟨a, b, rfl⟩
      · simp [ByteArray.size] at h2
    by_cases hd : dig a = true ∧ dig b = true
    · obtain ⟨ha, hb⟩ := hd
      have e1 : pairP [a, b] = some (10 * ((a.toNat : Int) - 48) + ((b.toNat : Int) - 48)) := by simp [pairP, ha, hb]
      have hA2 : (trimD ⟨#[a, b]⟩).data.toList = [] := by
        rw [← List.isEmpty_iff, hA]; simp [ha, hb]
      have hA3 : trimD ⟨#[a, b]⟩ = ⟨#[]⟩ := bytes_of (by rw [hA2])
      have ha' := of_decide_eq_true ha
      have hb' := of_decide_eq_true hb
      have m1 : ((a.toNat : Int) - 48) % 256 = (a.toNat : Int) - 48 := by omega
      have m2 : ((b.toNat : Int) - 48) % 256 = (b.toNat : Int) - 48 := by omega
      have u1 : IntKind.u8.wrap ((a.toNat : Int) - 48) = (a.toNat : Int) - 48 := IntWalk.u8_in _ (by omega)
      have u2 : IntKind.u8.wrap ((b.toNat : Int) - 48) = (b.toNat : Int) - 48 := IntWalk.u8_in _ (by omega)
      have u3 : IntKind.i64.wrap ((a.toNat : Int) - 48) = (a.toNat : Int) - 48 := IntWalk.i64_in _ (by omega)
      have u4 : IntKind.i64.wrap ((b.toNat : Int) - 48) = (b.toNat : Int) - 48 := IntWalk.i64_in _ (by omega)
      have u5 : IntKind.i64.wrap (((a.toNat : Int) - 48) * 10) = ((a.toNat : Int) - 48) * 10 := IntWalk.i64_in _ (by omega)
      have u6 : IntKind.i64.wrap (((a.toNat : Int) - 48) * 10 + ((b.toNat : Int) - 48)) = ((a.toNat : Int) - 48) * 10 + ((b.toNat : Int) - 48) := IntWalk.i64_in _ (by omega)
      have e2 : ((a.toNat : Int) - 48) * 10 + ((b.toNat : Int) - 48) = 10 * ((a.toNat : Int) - 48) + ((b.toNat : Int) - 48) := by omega
      rw [hA3] at hT
      show Calls _ _ _ _ fun e w' => e = .returned (.tuple #[.int .i64 ((pairP [a, b]).getD 0), .bool (pairP [a, b]).isSome]) ∧ _
      rw [e1]
      clear hA hA2 hA3 ha hb ha' hb' e1
      go_enter Tryz.func371, Tryz.ntmps371
      go_wp2_with fail
      refine hT.out.mono ?_; rintro e w1 ⟨rfl, B1⟩
      go_wp2_with fail
      go_quiet (fail)
      go_wp2
      go_ret2
      refine ⟨?_, below_drewN B1 _⟩
      show Ending.returned (.tuple #[.int .i64 (((a.toNat : Int) - 48) % 256 * 10 + ((b.toNat : Int) - 48) % 256), .bool true]) = _
      rw [m1, m2, e2]; rfl
    · have e1 : pairP [a, b] = none := by
        have : (dig a && dig b) = false := by simpa using hd
        simp [pairP, this]
      have hA2 : (trimD ⟨#[a, b]⟩).data.toList ≠ [] := by
        intro h3
        rw [← List.isEmpty_iff, hA] at h3
        simp at h3; exact hd h3
      show Calls _ _ _ _ fun e w' => e = .returned (.tuple #[.int .i64 ((pairP [a, b]).getD 0), .bool (pairP [a, b]).isSome]) ∧ _
      rw [e1]
      generalize trimD ⟨#[a, b]⟩ = tr at *
      have hne : (tr.toList == []) = false := by rw [ByteArray.toList_eq]; simpa using hA2
      clear hA hA2 e1 hd
      go_enter Tryz.func371, Tryz.ntmps371
      go_wp2_with fail
      refine hT.out.mono ?_; rintro e w1 ⟨rfl, B1⟩
      go_wp2
      go_ret2
      exact ⟨rfl, B1⟩
  · have e1 : pairP s.data.toList = none := by
      unfold pairP
      split
      · rename_i a b h3
        exfalso; apply h2
        have : s.data.toList.length = 2 := by rw [h3]; rfl
        rw [← this]; exact (Lib.size_eq s)
      · rfl
    rw [e1]
    have h3 : ((s.size : Int) != 2) = true := by simpa using (by omega : ¬ (s.size : Int) = 2)
    clear hA e1 hT
    go_enter Tryz.func371, Tryz.ntmps371
    go_wp2
    go_ret2
    exact ⟨rfl, Below.refl _ _⟩
set_option maxHeartbeats 1600000 in
set_option maxRecDepth 100000 in
theorem number_c (s : ByteArray) (most : Nat) (w : World) (hs : s.size ≤ 18) (hm : most ≤ 17) : Calls Tryz.prog 282 #[.string s, .int .i64 most] w fun e w' => e = .returned (.tuple #[.int .i64 ((numP s.data.toList most).getD 0), .bool (numP s.data.toList most).isSome]) ∧ Below w.heap.size w w' := by
  have hts : (⟨(Lib.trimPrefix s.data.toList [45]).toArray⟩ : ByteArray).size ≤ 18 := by
    show (Lib.trimPrefix s.data.toList [45]).toArray.size ≤ 18
    rw [List.size_toArray]
    unfold Lib.trimPrefix
    have := Lib.size_eq s
    split
    · rw [List.length_drop]; omega
    · omega
  have hN : numP s.data.toList most = if numBad (Lib.trimPrefix s.data.toList [45]) (Lib.hasPrefix s.data.toList [45]) most = true then none else Lib.atoi s.data.toList := rfl
  have hCP := Lib.hid (Tryz.strings_CutPrefix s ⟨#[45]⟩ w)
  have hNs := fun h => num_some (l := s.data.toList) (most := most) h
  have hTl : (⟨(Lib.trimPrefix s.data.toList [45]).toArray⟩ : ByteArray).data.toList = Lib.trimPrefix s.data.toList [45] := by simp
  rw [hN]
  rw [show (⟨#[45]⟩ : ByteArray).data.toList = [45] from rfl] at hCP
  generalize Lib.hasPrefix s.data.toList [45] = neg at *
  rw [← hTl] at hNs ⊢
  generalize (⟨(Lib.trimPrefix s.data.toList [45]).toArray⟩ : ByteArray) = t at *
  clear hN hTl
  have hT := Lib.hid (fun W => trimD_c t W (by omega))
  have hA := trimD_all t
  have hlen : t.toList.length = t.size := by rw [ByteArray.toList_eq]; exact (Lib.size_eq t).symm
  have hh : ∀ h : 0 < t.size, t.toList.headD 0 = t[0] := fun h => by rw [ByteArray.toList_eq]; exact head_of t h
  rw [← ByteArray.toList_eq] at hA hNs ⊢
  rw [← ByteArray.toList_eq] at hA
  have hA' := Lib.hid hA
  have hh' := Lib.hid hh
  have hlen' := Lib.hid hlen
  clear hA hh hlen
  generalize trimD t = tr at *
  have hR1 : numBad t.toList neg most = true → (Ending.returned (.tuple #[.int .i64 0, .bool false])) = Ending.returned (.tuple #[.int .i64 ((if numBad t.toList neg most = true then none else Lib.atoi s.data.toList).getD 0), .bool (if numBad t.toList neg most = true then none else Lib.atoi s.data.toList).isSome]) := fun h => by rw [if_pos h]; rfl
  have hR2 : ∀ n, numBad t.toList neg most = false → Lib.atoi s.data.toList = some n → (Ending.returned (.tuple #[.int .i64 n, .bool true])) = Ending.returned (.tuple #[.int .i64 ((if numBad t.toList neg most = true then none else Lib.atoi s.data.toList).getD 0), .bool (if numBad t.toList neg most = true then none else Lib.atoi s.data.toList).isSome]) := fun n h h2 => by rw [if_neg (by rw [h]; decide), h2]; rfl
  generalize Ending.returned (.tuple #[.int .i64 ((if numBad t.toList neg most = true then none else Lib.atoi s.data.toList).getD 0), .bool (if numBad t.toList neg most = true then none else Lib.atoi s.data.toList).isSome]) = R at *
  have hAt := Lib.hid (fun n h W => Tryz.strconv_Atoi s n hs h W)
  generalize Lib.atoi s.data.toList = AT at *
  have hR1' := Lib.hid hR1
  have hR2' := Lib.hid hR2
  have hNs' := Lib.hid hNs
  clear hR1 hR2 hNs
  go_enter Tryz.func282, Tryz.ntmps282
  go_wp2_with fail
  refine hCP.out.mono ?_; rintro e w1 ⟨rfl, rfl⟩
  go_wp2_with (go_at_call 224; refine (hT.out _).mono ?_; rintro e w1 ⟨rfl, B1⟩)
  · go_ret2
    rename_i h1
    exact ⟨hR1'.out (by unfold numBad; simp [h1]), Below.refl _ _⟩
  · go_ret2
    rename_i h1 h2
    exact ⟨hR1'.out (by unfold numBad; simp [h1, hlen'.out, h2]), Below.refl _ _⟩
  · go_ret2
    rename_i h1 h2 h3
    exact ⟨hR1'.out (by unfold numBad; simp [h1, hlen'.out, ← hA'.out, h3]), B1⟩
  · go_ret2
    rename_i h1 h2 h3 h4 h5 h6
    have h7 : t[0] = 48 := UInt8.toNat_inj.1 (by show t[0].toNat = 48; omega)
    exact ⟨hR1'.out (by unfold numBad; rw [hh'.out h4, h7]; simp [h6]), B1⟩
  · go_ret2
    rename_i h1 h2 h3 h4 h5 h6 h7
    have h8 : t[0] = 48 := UInt8.toNat_inj.1 (by show t[0].toNat = 48; omega)
    exact ⟨hR1'.out (by unfold numBad; rw [hh'.out h4, h8]; simp [h7]), B1⟩
  · have hb : numBad t.toList neg most = false := by
      have h1 : t.toList.isEmpty = false := by assumption
      have h2 : ¬ most < t.size := by assumption
      have h3 : tr.toList.isEmpty = true := by assumption
      have h6 : t.toList = [48] := by assumption
      have h7 : neg = false := by assumption
      unfold numBad
      rw [h1, hlen'.out, ← hA'.out, h3, h6, h7]
      simp [h2]
    obtain ⟨n, hn⟩ := hNs'.out hb
    refine (hAt.out n hn _).mono ?_; rintro e w3 ⟨rfl, q, hw3⟩
    have B0 := Lib.bytesWorld_below w1 5 q
    rw [← hw3] at B0
    have B3 := below_next B1 B0
    clear hAt hNs' hR1' hw3 B0 B1
    go_wp2_with fail
    go_quiet (fail)
    go_wp2
    go_ret2
    exact ⟨hR2'.out n hb hn, below_drewN B3 _⟩
  · have hb : numBad t.toList neg most = false := by
      have h1 : t.toList.isEmpty = false := by assumption
      have h2 : ¬ most < t.size := by assumption
      have h3 : tr.toList.isEmpty = true := by assumption
      have h4 : 0 < t.size := by assumption
      have h5 : ¬ (t[0].toNat : Int) = 48 := by assumption
      have h6 : t[0] ≠ 48 := fun e => h5 (by rw [e]; rfl)
      unfold numBad
      rw [h1, hlen'.out, ← hA'.out, h3, hh'.out h4]
      simp [h2, h6]
    obtain ⟨n, hn⟩ := hNs'.out hb
    refine (hAt.out n hn _).mono ?_; rintro e w3 ⟨rfl, q, hw3⟩
    have B0 := Lib.bytesWorld_below w1 5 q
    rw [← hw3] at B0
    have B3 := below_next B1 B0
    clear hAt hNs' hR1' hw3 B0 B1
    go_wp2_with fail
    go_quiet (fail)
    go_wp2
    go_ret2
    exact ⟨hR2'.out n hb hn, below_drewN B3 _⟩
  · exfalso
    have h1 : t.toList.isEmpty = false := by assumption
    have h4 : ¬ 0 < t.size := by assumption
    have h5 : t.toList = [] := List.eq_nil_of_length_eq_zero (by rw [hlen'.out]; omega)
    rw [h5] at h1; cases h1
/-- the library's own limit holds some int -/
def Mx (w : World) : Prop := ∃ m : Int, w.cell? ⟨0, 0, none⟩ = some (.int .i64 m)
theorem Mx.below {w w' : World} (h : Mx w) (hb : Below w.heap.size w w') : Mx w' := by
  obtain ⟨m, hm⟩ := h
  exact ⟨m, by rw [hb.cell (by exact World.block_lt_of_cell? _ _ hm)]; exact hm⟩
theorem cut_c (s : ByteArray) (c : UInt8) (w : World) (hM : Mx w) (hs : s.size ≤ 1000) : Calls Tryz.prog 265 #[.string s, .string ⟨#[c]⟩] w fun e w' => e = .returned (.tuple #[.string ⟨(Lib.cut s.data.toList [c]).1.toArray⟩, .string ⟨(Lib.cut s.data.toList [c]).2.1.toArray⟩, .bool (Lib.cut s.data.toList [c]).2.2]) ∧ Below w.heap.size w w' := by
  obtain ⟨m, hm⟩ := hM
  refine (Tryz.strings_Cut s ⟨#[c]⟩ m w (by omega) hm).mono ?_
  rintro e w' ⟨he, n, rfl⟩
  exact ⟨he, below_drewN (Below.refl _ _) n⟩
set_option maxHeartbeats 1600000 in
set_option maxRecDepth 100000 in
theorem parse_c (s : ByteArray) (w : World) (hs : s.size ≤ 18) (hM : Mx w) : Calls Tryz.prog 286 #[.string s] w fun e w' => e = .returned (.tuple #[.int .i64 (parseP s.data.toList).1, .int .i64 (parseP s.data.toList).2]) ∧ Below w.heap.size w w' := by
  have hC1 := Lib.hid (cut_c s 46 w hM (by omega))
  have l1 := cut_len 46 s.data.toList
  rw [parse_parts]
  have hsz := Lib.size_eq s
  generalize Lib.cut s.data.toList [46] = C1 at *
  obtain ⟨lf, rt, ok⟩ := C1
  dsimp only at *
  have l2 := cut_len 58 lf
  have hC2 := Lib.hid (fun W h => cut_c ⟨lf.toArray⟩ 58 W h (by show lf.toArray.size ≤ 1000; rw [List.size_toArray]; omega))
  have e1 : ∀ l : List UInt8, (⟨l.toArray⟩ : ByteArray).data.toList = l := fun l => by simp
  generalize Lib.cut lf [58] = C2 at *
  obtain ⟨mi, se, long⟩ := C2
  dsimp only at *
  have hP1 := Lib.hid (fun W => pair_c ⟨rt.toArray⟩ W (by show rt.toArray.size ≤ 1000; rw [List.size_toArray]; omega))
  have hP2 := Lib.hid (fun W => pair_c ⟨se.toArray⟩ W (by show se.toArray.size ≤ 1000; rw [List.size_toArray]; omega))
  have hN3 := Lib.hid (fun W => number_c ⟨mi.toArray⟩ 3 W (by show mi.toArray.size ≤ 18; rw [List.size_toArray]; omega) (by omega))
  have hN2 := Lib.hid (fun W => number_c ⟨lf.toArray⟩ 2 W (by show lf.toArray.size ≤ 18; rw [List.size_toArray]; omega) (by omega))
  have b1 := fun h e => pair_two (l := rt) (h := h) e
  have b2 := fun h e => pair_two (l := se) (h := h) e
  have b3 := fun n e => num_bd (l := mi) (most := 3) (n := n) e (by omega)
  have b4 := fun n e => num_bd (l := lf) (most := 2) (n := n) e (by omega)
  have hlf : lf ≠ [] → lf.isEmpty = false := fun h => by simpa using h
  unfold parseQ longP shortP
  generalize pairP rt = P1 at *
  generalize pairP se = P2 at *
  generalize numP mi 3 = N3 at *
  generalize numP lf 2 = N2 at *
  clear e1 l1 l2 hsz
  go_enter Tryz.func286, Tryz.ntmps286
  go_wp2_with fail
  refine hC1.out.mono ?_; rintro e w1 ⟨rfl, B1⟩
  have hM1 := hM.below B1
  clear hM hC1
  go_wp2_with fail
  refine (hP1.out _).mono ?_; rintro e w2 ⟨rfl, B2⟩
  have hM2 := hM1.below B2
  replace B2 := below_next B1 B2
  clear hM1 B1 hP1
  cases ok
  · go_wp2
    go_ret2
    exact ⟨rfl, B2⟩
  rcases P1 with _ | h
  · go_wp2
    go_ret2
    exact ⟨rfl, B2⟩
  obtain ⟨h0, h1, _⟩ := b1 h rfl
  go_wp2_with fail
  refine (hC2.out _ hM2).mono ?_; rintro e w3 ⟨rfl, B3⟩
  replace B3 := below_next B2 B3
  clear hM2 B2 hC2 b1
  cases long
  · go_wp2_with fail
    refine (hN2.out _).mono ?_; rintro e w4 ⟨rfl, B4⟩
    replace B4 := below_next B3 B4
    clear B3 hN2 hN3 hP2 b2 b3
    rcases N2 with _ | n
    · go_wp2
      all_goals (go_ret2; exact ⟨rfl, B4⟩)
    · obtain ⟨n0, n1, n2⟩ := b4 n rfl
      have hlf' := hlf n2
      clear hlf b4
      by_cases hn : 0 ≤ n ∧ n < 60
      · obtain ⟨n3, n4⟩ := hn
        have hn5 : ¬ (60 ≤ n) := by omega
        have k1 : IntKind.i64.wrap (100 * n) = 100 * n := IntWalk.i64_in _ (by omega)
        have k2 : IntKind.i64.wrap (100 * n + h) = 100 * n + h := IntWalk.i64_in _ (by omega)
        go_wp2_with fail
        refine (isTime_c _ _).mono ?_; rintro e w5 ⟨rfl, rfl⟩
        have hv : 0 ≤ n ∧ n < 60 := ⟨n3, n4⟩
        by_cases hT : 1 ≤ 100 * n + h ∧ 100 * n + h ≤ 360000
        · have hT' : (decide (1 ≤ 100 * n + h ∧ 100 * n + h ≤ 360000)) = true := decide_eq_true hT
          rw [hT']
          have hF : finT 0 n h = (100 * n + h, 0) := by
            unfold finT
            rw [if_pos (by omega)]
            congr 1; omega
          clear hT hT'
          go_wp2
          go_ret2
          refine ⟨?_, B4⟩
          show Ending.returned (.tuple #[.int .i64 (100 * n + h), .int .i64 0]) = _
          simp [hv, hF]
        · have hT' : (decide (1 ≤ 100 * n + h ∧ 100 * n + h ≤ 360000)) = false := decide_eq_false hT
          rw [hT']
          have hF : finT 0 n h = (0, 1) := by
            unfold finT
            rw [if_neg (by omega)]
          clear hT hT'
          go_wp2
          go_ret2
          refine ⟨?_, B4⟩
          show Ending.returned (.tuple #[.int .i64 0, .int .i64 1]) = _
          simp [hv, hF]
      · have hn' : ¬ (0 ≤ n ∧ n < 60) := hn
        have hn2 := Lib.hid hn
        clear hn hn'
        go_wp2
        all_goals first | (exfalso; apply hn2.out; omega) | (go_ret2; exact ⟨rfl, B4⟩) | (go_ret2; refine ⟨?_, B4⟩; show Ending.returned (.tuple #[.int .i64 0, .int .i64 9]) = _; simp [hn2.out])
  · go_wp2_with fail
    refine (hN3.out _).mono ?_; rintro e w4 ⟨rfl, B4⟩
    replace B4 := below_next B3 B4
    clear B3 hN2 hN3 b4 hlf
    go_wp2_with fail
    refine (hP2.out _).mono ?_; rintro e w5 ⟨rfl, B5⟩
    replace B5 := below_next B4 B5
    clear B4 hP2
    rcases N3 with _ | m
    · go_wp2
      all_goals (go_ret2; exact ⟨rfl, B5⟩)
    obtain ⟨m0, m1, _⟩ := b3 m rfl
    rcases P2 with _ | n
    · go_wp2
      all_goals (go_ret2; exact ⟨rfl, B5⟩)
    obtain ⟨n0, n1, _⟩ := b2 n rfl
    clear b2 b3
    by_cases hn : 1 ≤ m ∧ n < 60
    · obtain ⟨n3, n4⟩ := hn
      have hn5 : ¬ (60 ≤ n) := by omega
      have k0 : IntKind.i64.wrap (6000 * m) = 6000 * m := IntWalk.i64_in _ (by omega)
      have k1 : IntKind.i64.wrap (100 * n) = 100 * n := IntWalk.i64_in _ (by omega)
      have k2 : IntKind.i64.wrap (6000 * m + 100 * n) = 6000 * m + 100 * n := IntWalk.i64_in _ (by omega)
      have k3 : IntKind.i64.wrap (6000 * m + 100 * n + h) = 6000 * m + 100 * n + h := IntWalk.i64_in _ (by omega)
      go_wp2_with fail
      refine (isTime_c _ _).mono ?_; rintro e w6 ⟨rfl, rfl⟩
      have hv : 1 ≤ m ∧ n < 60 := ⟨n3, n4⟩
      by_cases hT : 1 ≤ 6000 * m + 100 * n + h ∧ 6000 * m + 100 * n + h ≤ 360000
      · have hT' : (decide (1 ≤ 6000 * m + 100 * n + h ∧ 6000 * m + 100 * n + h ≤ 360000)) = true := decide_eq_true hT
        rw [hT']
        have hF : finT m n h = (6000 * m + 100 * n + h, 0) := by
          unfold finT
          rw [if_pos hT]
        clear hT hT'
        go_wp2
        go_ret2
        refine ⟨?_, B5⟩
        show Ending.returned (.tuple #[.int .i64 (6000 * m + 100 * n + h), .int .i64 0]) = _
        simp [hv, hF]
      · have hT' : (decide (1 ≤ 6000 * m + 100 * n + h ∧ 6000 * m + 100 * n + h ≤ 360000)) = false := decide_eq_false hT
        rw [hT']
        have hF : finT m n h = (0, 1) := by
          unfold finT
          rw [if_neg hT]
        clear hT hT'
        go_wp2
        go_ret2
        refine ⟨?_, B5⟩
        show Ending.returned (.tuple #[.int .i64 0, .int .i64 1]) = _
        simp [hv, hF]
    · have hn2 := Lib.hid hn
      clear hn
      go_wp2
      all_goals first | (exfalso; apply hn2.out; omega) | (go_ret2; exact ⟨rfl, B5⟩) | (go_ret2; refine ⟨?_, B5⟩; show Ending.returned (.tuple #[.int .i64 0, .int .i64 9]) = _; simp [hn2.out])
theorem two_str {n : Int} (h0 : 0 ≤ n) (h1 : n < 100) : twoS n = ⟨(twoP n.toNat).toArray⟩ := by
  have h : ∀ m : Fin 100, twoS (m.val : Int) = ⟨(twoP m.val).toArray⟩ := by decide +kernel
  have h2 := h ⟨n.toNat, by omega⟩
  have e : (((⟨n.toNat, by omega⟩ : Fin 100).val : Nat) : Int) = n := by show ((n.toNat : Nat) : Int) = n; omega
  rw [e] at h2
  exact h2
theorem itoaD_c (x : Int) (h0 : 0 ≤ x) (h : x < 100) (w : World) : Calls Tryz.prog 109 #[.int .i64 x] w fun e w' => e = .returned (.string ⟨(digP x.toNat).toArray⟩) ∧ w' = w := by
  have := Tryz.strconv_Itoa_small x.toNat (by omega) w
  rw [dec_dig (by omega), show ((x.toNat : Nat) : Int) = x by omega] at this
  exact this
theorem str_app (a b : List UInt8) : (⟨a.toArray⟩ : ByteArray) ++ ⟨b.toArray⟩ = ⟨(a ++ b).toArray⟩ := ByteArray.mk_append_mk a b
theorem digP_len (m : Nat) : (digP m).length ≤ 2 := by unfold digP; split <;> simp
set_option maxRecDepth 100000 in
theorem write_c (n : Int) (w : World) (h0 : 1 ≤ n) (h1 : n ≤ 360000) : Calls Tryz.prog 131 #[.int .i64 n] w fun e w' => e = .returned (.tuple #[.string ⟨(writeP n.toNat).toArray⟩, .int .i64 0]) ∧ Below w.heap.size w w' := by
  have hT : (decide (1 ≤ n ∧ n ≤ 360000)) = true := decide_eq_true (by omega)
  have hI := Lib.hid (isTime_c n w)
  rw [hT] at hI
  clear hT
  have t1 := Lib.hid (fun W => two_c (n % 100) W (by omega) (by omega))
  have t2 := Lib.hid (fun W => two_c (n / 100 % 60) W (by omega) (by omega))
  rw [two_str (by omega) (by omega)] at t1 t2
  have i2 := Lib.hid (fun W => itoaD_c (n / 6000) (by omega) (by omega) W)
  have q1 : (n % 100).toNat = n.toNat % 100 := by omega
  have q2 : (n / 100 % 60).toNat = n.toNat / 100 % 60 := by omega
  have q3 : (n / 6000).toNat = n.toNat / 6000 := by omega
  have q4 : (n / 100).toNat = n.toNat / 100 := by omega
  rw [q1] at t1
  rw [q2] at t2
  rw [q3] at i2
  have z1 : (⟨(twoP (n.toNat % 100)).toArray⟩ : ByteArray).size = 2 := rfl
  have z2 : (⟨(twoP (n.toNat / 100 % 60)).toArray⟩ : ByteArray).size = 2 := rfl
  by_cases hl : n < 6000
  · have i1 := Lib.hid (fun W => itoaD_c (n / 100) (by omega) (by omega) W)
    rw [q4] at i1
    have z3 : (⟨(digP (n.toNat / 100)).toArray⟩ : ByteArray).size ≤ 2 := by
      show (digP (n.toNat / 100)).toArray.size ≤ 2
      rw [List.size_toArray]; exact digP_len _
    have hres : (⟨(digP (n.toNat / 100)).toArray⟩ : ByteArray) ++ (⟨#[46]⟩ ++ ⟨(twoP (n.toNat % 100)).toArray⟩) = ⟨(writeP n.toNat).toArray⟩ := by
      have : (⟨#[46]⟩ : ByteArray) = ⟨[46].toArray⟩ := rfl
      rw [this, str_app, str_app]
      unfold writeP
      rw [if_pos (by omega)]; rfl
    rw [← hres]
    generalize (⟨(digP (n.toNat / 100)).toArray⟩ : ByteArray) = D at *
    generalize (⟨(twoP (n.toNat % 100)).toArray⟩ : ByteArray) = S at *
    have y1 : ¬ (1 + S.size > 9223372036854775807) := by omega
    have y2 : ¬ (D.size + (1 + S.size) > 9223372036854775807) := by omega
    have y3 : ¬ (9223372036854775807 < D.size + (1 + S.size)) := by omega
    have y4 : D.size + (1 + S.size) ≤ 9223372036854775807 := by omega
    have y5 : D.size + (1 + 2) ≤ 9223372036854775807 := by omega
    have y6 : D.size + 3 ≤ 9223372036854775807 := by omega
    clear z2 z3 t2 i2 q1 q2 q3 q4 hres
    go_enter Tryz.func131, Tryz.ntmps131
    go_wp2_with fail
    refine hI.out.mono ?_; rintro e w' ⟨rfl, rfl⟩
    go_wp2_with fail
    refine (t1.out _).mono ?_; rintro e w1 ⟨rfl, B1⟩
    go_wp2_with fail
    refine (i1.out _).mono ?_; rintro e w' ⟨rfl, rfl⟩
    go_wp2
    go_ret2
    exact ⟨rfl, B1⟩
  · have z3 : (⟨(digP (n.toNat / 6000)).toArray⟩ : ByteArray).size ≤ 2 := by
      show (digP (n.toNat / 6000)).toArray.size ≤ 2
      rw [List.size_toArray]; exact digP_len _
    have hres : (⟨(digP (n.toNat / 6000)).toArray⟩ : ByteArray) ++ ⟨#[58]⟩ ++ ⟨(twoP (n.toNat / 100 % 60)).toArray⟩ ++ (⟨#[46]⟩ ++ ⟨(twoP (n.toNat % 100)).toArray⟩) = ⟨(writeP n.toNat).toArray⟩ := by
      have : (⟨#[46]⟩ : ByteArray) = ⟨[46].toArray⟩ := rfl
      have e2 : (⟨#[58]⟩ : ByteArray) = ⟨[58].toArray⟩ := rfl
      rw [this, e2, str_app, str_app, str_app, str_app]
      unfold writeP
      rw [if_neg (by omega)]
      simp
    rw [← hres]
    generalize (⟨(digP (n.toNat / 6000)).toArray⟩ : ByteArray) = D at *
    generalize (⟨(twoP (n.toNat % 100)).toArray⟩ : ByteArray) = S at *
    generalize (⟨(twoP (n.toNat / 100 % 60)).toArray⟩ : ByteArray) = S2 at *
    have y1 : ¬ (1 + S.size > 9223372036854775807) := by omega
    have y2 : D.size + 1 ≤ 9223372036854775807 := by omega
    have y3 : D.size + 1 + S2.size ≤ 9223372036854775807 := by omega
    have y4 : D.size + 1 + S2.size + (1 + S.size) ≤ 9223372036854775807 := by omega
    have y5 : D.size + 1 + 2 ≤ 9223372036854775807 := by omega
    have y6 : D.size + 3 ≤ 9223372036854775807 := by omega
    have y7 : D.size + 1 + 2 + (1 + 2) ≤ 9223372036854775807 := by omega
    have y8 : D.size + 6 ≤ 9223372036854775807 := by omega
    have y9 : D.size < 9223372036854775807 := by omega
    have y10 : D.size + 1 + 2 + 3 ≤ 9223372036854775807 := by omega
    clear z3 q1 q2 q3 q4 hres
    go_enter Tryz.func131, Tryz.ntmps131
    go_wp2_with fail
    refine hI.out.mono ?_; rintro e w' ⟨rfl, rfl⟩
    go_wp2_with fail
    refine (t1.out _).mono ?_; rintro e w1 ⟨rfl, B1⟩
    go_wp2_with fail
    refine (i2.out _).mono ?_; rintro e w' ⟨rfl, rfl⟩
    go_wp2_with fail
    refine (t2.out _).mono ?_; rintro e w2 ⟨rfl, B2⟩
    replace B2 := below_next B1 B2
    go_wp2
    go_ret2
    exact ⟨rfl, B2⟩
end Go.Proofs.YtklggnglaeagpaaGreatDoor

/- The reference's Int and ParsedOf: the walk. -/
namespace Go.Proofs.YtklggnglaeagpaaGreatDoor
open Go.RowKit
set_option linter.unusedVariables false

/-- the error of a wrong numeral is there -/
def Ex (w : World) : Prop := ∃ tp p, w.var? Tryz.prog "strconv.ErrSyntax" = some #[.iface tp p]
theorem Ex.below {w w' : World} (h : Ex w) (hb : Below w.heap.size w w') : Ex w' := by
  obtain ⟨tp, p, h⟩ := h
  refine ⟨tp, p, ?_⟩
  unfold World.var? at h ⊢
  rcases hg : Program.globalNamed Tryz.prog "strconv.ErrSyntax" with _ | g
  · rw [hg] at h; cases h
  · rw [hg] at h
    simp only [Option.bind_some] at h ⊢
    have hlt : g < w.heap.size := by
      rcases Nat.lt_or_ge g w.heap.size with h' | h'
      · exact h'
      · rw [Array.getElem?_eq_none h'] at h; cases h
    rw [hb.block g hlt]
    exact h
theorem atoiX_c (s : ByteArray) (w : World) (hs : s.size ≤ 18) (hE : Ex w) : Calls Tryz.prog 287 #[.string s] w fun e w' => (∃ n, Lib.atoi s.data.toList = some n ∧ e = .returned (.tuple #[.int .i64 n, .nilIface]) ∧ Below w.heap.size w w') ∨ (Lib.atoi s.data.toList = none ∧ ∃ T N, e = .returned (.tuple #[.int .i64 0, .iface T (.pointer (some ⟨N, 0, none⟩))]) ∧ Below w.heap.size w w') := by
  rcases hA : Lib.atoi s.data.toList with _ | n
  · obtain ⟨tp, p, hv⟩ := hE
    refine (Tryz.strconv_Atoi_err_var s hs hA tp p w hv).mono ?_
    rintro e w' ⟨N, he, _, _, hb⟩
    exact .inr ⟨rfl, _, N, he, hb⟩
  · refine (Tryz.strconv_Atoi s n hs hA w).mono ?_
    rintro e w' ⟨he, q, rfl⟩
    exact .inl ⟨n, rfl, he, Lib.bytesWorld_below _ _ _⟩
theorem int_bd {l : List UInt8} {n : Int} (h : Lib.atoi l = some n) (hl : l.length ≤ 18) : -1000000000000000000 < n ∧ n < 1000000000000000000 := Lib.atoi_bound h hl
set_option maxHeartbeats 1600000 in
set_option maxRecDepth 100000 in
theorem intR_c (s : ByteArray) (w : World) (hs : s.size ≤ 18) (hT : Tb w) (hE : Ex w) : Calls Tryz.prog 268 #[.string s, .int .i64 3] w fun e w' => ∃ v, e = .returned (.tuple #[.int .i64 v, .bool (intP s.data.toList).isSome]) ∧ (∀ m, intP s.data.toList = some m → v = m) ∧ Below w.heap.size w w' := by
  have hts : (⟨(Lib.trimPrefix s.data.toList [45]).toArray⟩ : ByteArray).size ≤ 18 := by
    show (Lib.trimPrefix s.data.toList [45]).toArray.size ≤ 18
    rw [List.size_toArray]
    unfold Lib.trimPrefix
    have := Lib.size_eq s
    split
    · rw [List.length_drop]; omega
    · omega
  have hlt : (⟨(Lib.trimPrefix s.data.toList [45]).toArray⟩ : ByteArray).size = (Lib.trimPrefix s.data.toList [45]).length := by
    show (Lib.trimPrefix s.data.toList [45]).toArray.size = _
    rw [List.size_toArray]
  have f1 : ¬ ((1 ≤ (Lib.trimPrefix s.data.toList [45]).length ∧ (Lib.trimPrefix s.data.toList [45]).length ≤ 3) ∧ (Lib.trimPrefix s.data.toList [45]).all dig = true) → intP s.data.toList = none := fun h => by unfold intP; rw [if_neg h]
  have f2 : ∀ n, ((1 ≤ (Lib.trimPrefix s.data.toList [45]).length ∧ (Lib.trimPrefix s.data.toList [45]).length ≤ 3) ∧ (Lib.trimPrefix s.data.toList [45]).all dig = true) → Lib.atoi s.data.toList = some n → Lib.itoa n = s.data.toList → intP s.data.toList = some n := fun n h h2 h3 => by unfold intP; rw [if_pos h, h2]; simp only; rw [if_pos h3]
  have f3 : ∀ n, ((1 ≤ (Lib.trimPrefix s.data.toList [45]).length ∧ (Lib.trimPrefix s.data.toList [45]).length ≤ 3) ∧ (Lib.trimPrefix s.data.toList [45]).all dig = true) → Lib.atoi s.data.toList = some n → Lib.itoa n ≠ s.data.toList → intP s.data.toList = none := fun n h h2 h3 => by unfold intP; rw [if_pos h, h2]; simp only; rw [if_neg h3]
  have f4 : Lib.atoi s.data.toList = none → intP s.data.toList = none := fun h2 => by unfold intP; rw [h2]; simp
  generalize intP s.data.toList = IP at *
  have hTP := Lib.hid (Tryz.strings_TrimPrefix s ⟨#[45]⟩ w)
  rw [show (⟨#[45]⟩ : ByteArray).data.toList = [45] from rfl] at hTP
  have hA := trimD_all ⟨(Lib.trimPrefix s.data.toList [45]).toArray⟩
  rw [show (⟨(Lib.trimPrefix s.data.toList [45]).toArray⟩ : ByteArray).data.toList = Lib.trimPrefix s.data.toList [45] by simp] at hA
  rw [← hA, ← hlt] at f1 f2 f3
  have hTr := Lib.hid (fun W => trimD_c ⟨(Lib.trimPrefix s.data.toList [45]).toArray⟩ W (by omega))
  generalize (⟨(Lib.trimPrefix s.data.toList [45]).toArray⟩ : ByteArray) = t at *
  clear hA hlt
  rw [← ByteArray.toList_eq (trimD t)] at f1 f2 f3
  generalize trimD t = tr at *
  have hAt := Lib.hid (fun W h => atoiX_c s W hs h)
  have hsl : s.data.toList = s.toList := (ByteArray.toList_eq s).symm
  have hbd := fun n h => int_bd (l := s.data.toList) (n := n) h (by have := Lib.size_eq s; omega)
  have hIn := Lib.hid (fun W => in_c (t.size : Int) 1 3 W)
  by_cases h1 : 1 ≤ t.size ∧ t.size ≤ 3
  · have hd1 : (decide (1 ≤ (t.size : Int) ∧ (t.size : Int) ≤ 3)) = true := decide_eq_true (by omega)
    rw [hd1] at hIn
    cases h2 : tr.toList.isEmpty
    · obtain rfl := f1 (by rw [h2]; simp)
      clear f1 f2 f3 f4 hbd hd1
      go_enter Tryz.func268, Tryz.ntmps268
      go_wp2_with fail
      refine hTP.out.mono ?_; rintro e w' ⟨rfl, rfl⟩
      go_wp2_with fail
      refine (hIn.out _).mono ?_; rintro e w' ⟨rfl, rfl⟩
      go_wp2_with fail
      refine (hTr.out _).mono ?_; rintro e w1 ⟨rfl, B1⟩
      go_wp2
      go_ret2
      exact ⟨0, rfl, (fun m h => by cases h), B1⟩
    · have f2' := Lib.hid (fun n => f2 n ⟨h1, h2⟩)
      have f3' := Lib.hid (fun n => f3 n ⟨h1, h2⟩)
      have f4' := Lib.hid f4
      have hbd' := Lib.hid hbd
      clear f1 f2 f3 f4 hbd hd1
      go_enter Tryz.func268, Tryz.ntmps268
      go_wp2_with fail
      refine hTP.out.mono ?_; rintro e w' ⟨rfl, rfl⟩
      go_wp2_with fail
      refine (hIn.out _).mono ?_; rintro e w' ⟨rfl, rfl⟩
      go_wp2_with fail
      refine (hTr.out _).mono ?_; rintro e w1 ⟨rfl, B1⟩
      have hE1 := hE.below B1
      have hT1 := hT.below B1
      clear hE hT hTr hIn hTP
      go_wp2_with fail
      refine (hAt.out _ hE1).mono ?_; rintro e w2 (⟨n, hn, rfl, B2⟩ | ⟨hn, T, N, rfl, B2⟩)
      · have hT2 := hT1.below B2
        have B := below_next B1 B2
        obtain ⟨n0, n1⟩ := hbd'.out n hn
        have hit := Lib.hid (fun W h => itoa_c n W h (by omega) (by omega))
        have hEq : (itoaS n).toList = Lib.itoa n := by rw [ByteArray.toList_eq]; simp [itoaS]
        by_cases hq : Lib.itoa n = s.data.toList
        · obtain rfl := f2'.out n hn hq
          have hq2 : ((itoaS n).toList == s.toList) = true := by rw [hEq, ← hsl, hq]; simp
          have hq3 : (itoaS n).toList = s.toList := by rw [hEq, ← hsl, hq]
          clear hE1 hT1 B1 B2 hAt hbd' f2' f3' f4' hEq hq hn
          generalize itoaS n = I at *
          go_wp2_with fail
          refine (hit.out _ hT2).mono ?_; rintro e w3 ⟨rfl, B3⟩
          go_wp2
          go_ret2
          exact ⟨n, by first | rfl | simp [*], (fun m h => by injection h), below_next B B3⟩
        · obtain rfl := f3'.out n hn hq
          have hq3 : ¬ (itoaS n).toList = s.toList := by rw [hEq, ← hsl]; exact hq
          have hq2 : ((itoaS n).toList == s.toList) = false := by simpa using hq3
          clear hE1 hT1 B1 B2 hAt hbd' f2' f3' f4' hEq hq hn
          generalize itoaS n = I at *
          go_wp2_with fail
          refine (hit.out _ hT2).mono ?_; rintro e w3 ⟨rfl, B3⟩
          go_wp2
          go_ret2
          exact ⟨n, by first | rfl | simp [*], (fun m h => by cases h), below_next B B3⟩
      · have B := below_next B1 B2
        obtain rfl := f4'.out hn
        clear hE1 hT1 B1 B2 hAt hbd' f2' f3' f4' hn
        go_wp2
        go_ret2
        exact ⟨0, by first | rfl | simp [*], (fun m h => by cases h), B⟩
  · have hd1 : (decide (1 ≤ (t.size : Int) ∧ (t.size : Int) ≤ 3)) = false := decide_eq_false (by omega)
    rw [hd1] at hIn
    obtain rfl := f1 (by intro hc; exact h1 hc.1)
    clear f1 f2 f3 f4 hbd hd1
    go_enter Tryz.func268, Tryz.ntmps268
    go_wp2_with fail
    refine hTP.out.mono ?_; rintro e w' ⟨rfl, rfl⟩
    go_wp2_with fail
    refine (hIn.out _).mono ?_; rintro e w' ⟨rfl, rfl⟩
    go_wp2
    go_ret2
    exact ⟨0, rfl, (fun m h => by cases h), Below.refl _ _⟩
theorem int_bd3 {l : List UInt8} {m : Int} (h : intP l = some m) (h1 : 1 ≤ m) : m < 1000 := (num_bd ((int_num h1).1 h) (by omega)).2.1
theorem atoi_nn {l : List UInt8} {x : Int} (h : Lib.atoi l = some x) (hd : l.all dig = true) : 0 ≤ x := by
  rcases l with _ | ⟨b, r⟩
  · cases h
  · simp only [List.all_cons, Bool.and_eq_true] at hd
    rw [atoi_dig hd.1] at h
    cases hv : Lib.decFrom (b.toNat - 48) r with
    | none => rw [hv] at h; cases h
    | some v => rw [hv] at h; have : (v : Int) = x := by simpa using h
                omega
theorem atoi_bd2 {l : List UInt8} {h : Int} (ha : Lib.atoi l = some h) (hl : l.length = 2) (hd : l.all dig = true) : 0 ≤ h ∧ h < 100 := by
  rcases l with _ | ⟨a, _ | ⟨b, _ | ⟨c, l⟩⟩⟩
  · cases hl
  · cases hl
  · simp only [List.all_cons, Bool.and_eq_true] at hd
    rw [atoi_two hd.1 hd.2.1] at ha
    have h1 := of_decide_eq_true hd.1
    have h2 := of_decide_eq_true hd.2.1
    have := Option.some.inj ha
    omega
  · simp at hl
theorem pr_none1 {point colon : Bool} {mi se tail : List UInt8} (h : intP mi = none) : parsedR point colon mi se tail = (0, 9) := by
  unfold parsedR; rw [h]
  cases point <;> cases Lib.atoi se <;> cases Lib.atoi tail <;> rfl
theorem pr_none2 {point colon : Bool} {mi se tail : List UInt8} (h : Lib.atoi se = none) : parsedR point colon mi se tail = (0, 9) := by
  unfold parsedR; rw [h]
  cases point <;> cases intP mi <;> cases Lib.atoi tail <;> rfl
theorem pr_none3 {point colon : Bool} {mi se tail : List UInt8} (h : Lib.atoi tail = none) : parsedR point colon mi se tail = (0, 9) := by
  unfold parsedR; rw [h]
  cases point <;> cases intP mi <;> cases Lib.atoi se <;> rfl
set_option maxHeartbeats 3200000 in
set_option maxRecDepth 100000 in
theorem parsedOf_c (s : ByteArray) (w : World) (hs : s.size ≤ 18) (hM : Mx w) (hT : Tb w) (hE : Ex w) : Calls Tryz.prog 221 #[.string s] w fun e w' => e = .returned (.tuple #[.int .i64 (parseP s.data.toList).1, .int .i64 (parseP s.data.toList).2]) ∧ Below w.heap.size w w' := by
  have hC1 := Lib.hid (cut_c s 46 w hM (by omega))
  have l1 := cut_len 46 s.data.toList
  rw [parse_parts]
  have hsz := Lib.size_eq s
  generalize Lib.cut s.data.toList [46] = C1 at *
  obtain ⟨lf, rt, point⟩ := C1
  dsimp only at *
  have l2 := cut_len 58 lf
  have hC2 := Lib.hid (fun W h => cut_c ⟨lf.toArray⟩ 58 W h (by show lf.toArray.size ≤ 1000; rw [List.size_toArray]; omega))
  generalize hcc : Lib.cut lf [58] = C2 at *
  obtain ⟨mi, se, colon⟩ := C2
  dsimp only at *
  rw [← parsed_parts]
  have hsel : (if colon = true then se else lf).length ≤ 18 := by split <;> omega
  have hmil : (if colon = true then mi else [48]).length ≤ 18 := by
    split
    · omega
    · exact (by decide : ([48] : List UInt8).length ≤ 18)
  have hrtl : rt.length ≤ 18 := by omega
  clear hcc l1 l2 hsz
  generalize hMI : (if colon = true then mi else [48]) = MI at *
  generalize hSE : (if colon = true then se else lf) = SE at *
  have g0 : point = false → parsedR point colon MI SE rt = (0, 9) := fun h => by subst h; rfl
  have g1 : intP MI = none → parsedR point colon MI SE rt = (0, 9) := fun h => pr_none1 h
  have g2 : Lib.atoi SE = none → parsedR point colon MI SE rt = (0, 9) := fun h => pr_none2 h
  have g3 : Lib.atoi rt = none → parsedR point colon MI SE rt = (0, 9) := fun h => pr_none3 h
  have g4 : ∀ m x h, point = true → intP MI = some m → Lib.atoi SE = some x → Lib.atoi rt = some h → parsedR point colon MI SE rt = restR colon m x h SE rt := fun m x h h0 h1 h2 h3 => by unfold parsedR; rw [h0, h1, h2, h3]; rfl
  generalize parsedR point colon MI SE rt = ANS at *
  obtain ⟨A1, A2⟩ := ANS
  dsimp only
  have g0' := Lib.hid g0
  have g1' := Lib.hid g1
  have g2' := Lib.hid g2
  have g3' := Lib.hid g3
  have g4' := Lib.hid g4
  clear g0 g1 g2 g3 g4
  go_enter Tryz.func221, Tryz.ntmps221
  go_wp2_with fail
  refine hC1.out.mono ?_; rintro e w1 ⟨rfl, B1⟩
  have hM1 := hM.below B1
  have hT1 := hT.below B1
  have hE1 := hE.below B1
  clear hM hT hE hC1
  go_wp2_with fail
  refine (hC2.out _ hM1).mono ?_; rintro e w2 ⟨rfl, B2⟩
  have hT2 := hT1.below B2
  have hE2 := hE1.below B2
  replace B2 := below_next B1 B2
  clear hM1 hT1 hE1 B1 hC2
  go_upto_if 31 with (fail)
  go_cut [7, 8] (fun s7 s8 wx => s7 = .string ⟨MI.toArray⟩ ∧ s8 = .string ⟨SE.toArray⟩ ∧ Below w.heap.size w wx ∧ Tb wx ∧ Ex wx)
  case first =>
    cases colon
    · obtain rfl : [48] = MI := hMI
      obtain rfl : lf = SE := hSE
      go_wp2
      go_meet
      case rel => exact ⟨rfl, rfl, B2, hT2, hE2⟩
    · obtain rfl : mi = MI := hMI
      obtain rfl : se = SE := hSE
      go_wp2
      go_meet
      case rel => exact ⟨rfl, rfl, B2, hT2, hE2⟩
  case rest =>
    clear hT2 hE2 B2
    rename World => wx
    obtain ⟨rfl, rfl, B3, hT3, hE3⟩ := hcut
    clear hMI hSE
    have hI := Lib.hid (fun W hT hE => intR_c ⟨MI.toArray⟩ W (by show MI.toArray.size ≤ 18; rw [List.size_toArray]; exact hmil) hT hE)
    have hA2 := Lib.hid (fun W hE => atoiX_c ⟨SE.toArray⟩ W (by show SE.toArray.size ≤ 18; rw [List.size_toArray]; exact hsel) hE)
    have hA3 := Lib.hid (fun W hE => atoiX_c ⟨rt.toArray⟩ W (by show rt.toArray.size ≤ 18; rw [List.size_toArray]; exact hrtl) hE)
    have e1 : ∀ l : List UInt8, (⟨l.toArray⟩ : ByteArray).data.toList = l := fun l => by simp
    have hcat := trimD_all (⟨rt.toArray⟩ ++ ⟨SE.toArray⟩)
    rw [str_app] at hcat
    have hTr := Lib.hid (fun W => trimD_c (⟨rt.toArray⟩ ++ ⟨SE.toArray⟩) W (by rw [str_app]; show (rt ++ SE).toArray.size ≤ 1000; rw [List.size_toArray, List.length_append]; omega))
    rw [str_app, ← str_app] at hTr
    have zr : (⟨rt.toArray⟩ : ByteArray).size = rt.length := by show rt.toArray.size = _; rw [List.size_toArray]
    have zs : (⟨SE.toArray⟩ : ByteArray).size = SE.length := by show SE.toArray.size = _; rw [List.size_toArray]
    have hbI := fun m h => int_bd3 (l := MI) (m := m) h
    have hbS := fun x h => atoi_nn (l := SE) (x := x) h
    have hbS2 := fun x h => int_bd (l := SE) (n := x) h hsel
    have hbR := fun x h => atoi_bd2 (l := rt) (h := x) h
    dsimp only at hI hA2 hA3 hcat
    try simp only [List.toList_toArray] at hI hA2 hA3 hcat
    rw [← str_app] at hcat
    have hcat2 : (trimD (⟨rt.toArray⟩ ++ ⟨SE.toArray⟩)).toList.isEmpty = (rt ++ SE).all dig := by rw [ByteArray.toList_eq, ← hcat]
    have hSt : (⟨SE.toArray⟩ : ByteArray).toList = SE := by rw [ByteArray.toList_eq]
    generalize (⟨rt.toArray⟩ : ByteArray) = RT at *
    generalize (⟨SE.toArray⟩ : ByteArray) = SS at *
    generalize (⟨MI.toArray⟩ : ByteArray) = MS at *
    have ycat : ¬ (9223372036854775807 < RT.size + SS.size) := by omega
    have ycat2 : ¬ (RT.size + SS.size > 9223372036854775807) := by omega
    generalize trimD (RT ++ SS) = tr at *
    clear hcat e1
    generalize hIP : intP MI = IP at *
    generalize hAS : Lib.atoi SE = AS at *
    generalize hAR : Lib.atoi rt = AR at *
    have hbI' := Lib.hid hbI
    have hbS' := Lib.hid hbS
    have hbS2' := Lib.hid hbS2
    have hbR' := Lib.hid hbR
    have hcat' := Lib.hid hcat2
    have hSt' := Lib.hid hSt
    have zr' := Lib.hid zr
    have zs' := Lib.hid zs
    clear hIP hAS hAR hbI hbS hbS2 hbR hcat2 hSt zr zs hsel hmil hrtl
    go_wp2_with fail
    refine (hI.out _ hT3 hE3).mono ?_; rintro e w4 ⟨v, rfl, hv, B4⟩
    have hT4 := hT3.below B4
    have hE4 := hE3.below B4
    replace B4 := below_next B3 B4
    clear hT3 hE3 B3 hI
    go_wp2_with fail
    refine (hA2.out _ hE4).mono ?_; rintro e w5 h5
    obtain ⟨x, er1, ers, rfl, hx1, B5⟩ : ∃ (x : Int) (er1 : Value) (ok1 : Bool), e = .returned (.tuple #[.int .i64 x, er1]) ∧ ((AS = some x ∧ er1 = .nilIface) ∨ (AS = none ∧ ∃ T N, er1 = .iface T (.pointer (some ⟨N, 0, none⟩)))) ∧ Below w4.heap.size w4 w5 := by
      rcases h5 with ⟨n, hn, he, hb⟩ | ⟨hn, T, N, he, hb⟩
      · exact ⟨n, _, true, he, .inl ⟨hn, rfl⟩, hb⟩
      · exact ⟨0, _, true, he, .inr ⟨hn, T, N, rfl⟩, hb⟩
    have hx1' := Lib.hid hx1
    have hT5 := hT4.below B5
    have hE5 := hE4.below B5
    replace B5 := below_next B4 B5
    clear h5 hx1 hT4 hE4 B4 hA2
    go_wp2_with fail
    refine (hA3.out _ hE5).mono ?_; rintro e w6 h6
    obtain ⟨h, er2, ers2, rfl, hx2, B6⟩ : ∃ (x : Int) (er1 : Value) (ok1 : Bool), e = .returned (.tuple #[.int .i64 x, er1]) ∧ ((AR = some x ∧ er1 = .nilIface) ∨ (AR = none ∧ ∃ T N, er1 = .iface T (.pointer (some ⟨N, 0, none⟩)))) ∧ Below w5.heap.size w5 w6 := by
      rcases h6 with ⟨n, hn, he, hb⟩ | ⟨hn, T, N, he, hb⟩
      · exact ⟨n, _, true, he, .inl ⟨hn, rfl⟩, hb⟩
      · exact ⟨0, _, true, he, .inr ⟨hn, T, N, rfl⟩, hb⟩
    have hx2' := Lib.hid hx2
    have hT6 := hT5.below B6
    replace B6 := below_next B5 B6
    clear h6 hx2 hT5 hE5 B5 hA3
    have hz : ∀ B : Prop, B → (A1, A2) = ((0, 9) : Int × Int) → Ending.returned (.tuple #[.int .i64 0, .int .i64 9]) = Ending.returned (.tuple #[.int .i64 A1, .int .i64 A2]) ∧ B := fun B h e => by injection e with e1 e2; subst e1 e2; exact ⟨rfl, h⟩
    cases point
    · go_wp2
      go_ret2
      exact hz _ B6 (g0'.out (by first | rfl | trivial))
    rcases IP with _ | m
    · go_wp2
      go_ret2
      exact hz _ B6 (g1'.out (by first | rfl | trivial))
    obtain rfl := hv m rfl
    clear hv
    rcases hx1'.out.symm with ⟨hAS, T, N, rfl⟩ | ⟨hAS, rfl⟩
    · clear hx1' hx2'
      by_cases hm : v < 0
      · go_wp2
        go_ret2
        exact hz _ B6 (g2'.out hAS)
      · go_wp2
        all_goals (go_ret2; exact hz _ B6 (g2'.out hAS))
    rcases hx2'.out.symm with ⟨hAR, T, N, rfl⟩ | ⟨hAR, rfl⟩
    · clear hx1' hx2' hAS
      by_cases hm : v < 0
      · go_wp2
        go_ret2
        exact hz _ B6 (g3'.out hAR)
      · go_wp2
        all_goals (go_ret2; exact hz _ B6 (g3'.out hAR))
    have hg := Lib.hid (g4'.out v x h rfl rfl hAS hAR)
    have hrest := Lib.hid (fun hc => hg.out.trans (rest_no (colon := colon) (m := v) (x := x) (h := h) (se := SE) (tail := rt) hc))
    have hAS' := Lib.hid hAS
    have hAR' := Lib.hid hAR
    clear hx1' hx2' hAS hAR g0' g1' g2' g3' g4'
    by_cases hm : v < 0
    · go_wp2
      go_ret2
      exact hz _ B6 (hrest.out (.inl hm))
    by_cases hl : ¬ RT.size = 2
    · have hl2 : ((RT.size : Int) != 2) = true := by simpa using (by omega : ¬ (RT.size : Int) = 2)
      have hrr := Lib.hid (hrest.out (.inr (.inl (by rw [← zr'.out]; exact hl))))
      go_wp2
      all_goals (go_ret2; exact hz _ B6 hrr.out)
    have hl1 : RT.size = 2 := by omega
    clear hl
    cases hq : tr.toList.isEmpty
    · go_wp2_with fail
      · exfalso; omega
      refine (hTr.out _).mono ?_; rintro e w7 ⟨rfl, B7⟩
      replace B7 := below_next B6 B7
      go_wp2
      go_ret2
      exact hz _ B7 (hrest.out (.inr (.inr (.inl (by rw [← hcat'.out, hq])))))
    go_wp2_with fail
    · exfalso; omega
    refine (hTr.out _).mono ?_; rintro e w7 ⟨rfl, B7⟩
    have hT7 := hT6.below B7
    replace B7 := below_next B6 B7
    clear hT6 B6 hTr
    have hd : rt.all dig = true ∧ SE.all dig = true := by
      have h1 := hcat'.out
      rw [hq, List.all_append] at h1
      simpa using h1.symm
    have x0 := hbS'.out x hAS'.out hd.2
    have x1 := hbS2'.out x hAS'.out
    have hh := hbR'.out h hAR'.out (by rw [← zr'.out]; exact hl1) hd.1
    have v1 : v < 1000 := by
      rcases Int.lt_or_le v 1 with h1 | h1
      · omega
      · exact hbI'.out v rfl h1
    have v0 : 0 ≤ v := by omega
    have hd' := Lib.hid hd
    have hl1' := Lib.hid hl1
    have hm' := Lib.hid hm
    clear hbS' hbS2' hbR' hbI' hcat' hd hl1 hm
    cases colon
    · have hit := Lib.hid (itoa_c x w7 hT7 (by omega) (by omega))
      have hIt : (itoaS x).toList = Lib.itoa x := by rw [ByteArray.toList_eq]; simp [itoaS]
      by_cases hq : SE = Lib.itoa x
      · have hq3 : SS.toList = (itoaS x).toList := by rw [hIt, hSt'.out]; exact hq
        have hqq := Lib.hid hq
        clear hIt hq
        generalize itoaS x = I at *
        go_wp2_with fail
        refine hit.out.mono ?_; rintro e w8 ⟨rfl, B8⟩
        replace B8 := below_next B7 B8
        by_cases hx9 : 59 < x
        · have hrr := Lib.hid (hrest.out (.inr (.inr (.inr (.inr (.inr hx9))))))
          go_wp2
          go_ret2
          exact hz _ B8 hrr.out
        · have hRR : Hid ((A1, A2) = finT v x h) := Lib.hid (by
            rw [hg.out]; unfold restR
            rw [if_neg, if_neg]
            · rintro (h1 | h1 | h1)
              · cases h1.1
              · exact h1.2 hqq.out
              · exact hx9 h1
            · rintro (h1 | h1 | h1)
              · have := hm'.out; omega
              · exact h1 (by rw [← zr'.out]; exact hl1'.out)
              · rw [List.all_append, hd'.out.1, hd'.out.2] at h1; cases h1)
          clear hrest hg
          have hx0 : ¬ 59 < x := hx9
          have k0 : IntKind.i64.wrap (v * 6000) = v * 6000 := IntWalk.i64_in _ (by omega)
          have k1 : IntKind.i64.wrap (x * 100) = x * 100 := IntWalk.i64_in _ (by omega)
          have k2 : IntKind.i64.wrap (v * 6000 + x * 100) = v * 6000 + x * 100 := IntWalk.i64_in _ (by omega)
          have k3 : IntKind.i64.wrap (v * 6000 + x * 100 + h) = v * 6000 + x * 100 + h := IntWalk.i64_in _ (by omega)
          go_wp2_with fail
          refine (timeFault_c _ _).mono ?_; rintro e w' ⟨rfl, rfl⟩
          by_cases hTm : 1 ≤ v * 6000 + x * 100 + h ∧ v * 6000 + x * 100 + h ≤ 360000
          · have hte : timeErr (v * 6000 + x * 100 + h) = 0 := by unfold timeErr; rw [if_pos hTm]
            have hF : (A1, A2) = (v * 6000 + x * 100 + h, 0) := by
              rw [hRR.out]; unfold finT; rw [if_pos (by omega)]; congr 1; omega
            injection hF with a1 a2
            subst a1 a2
            rw [hte]
            clear hte hTm
            go_wp2
            go_ret2
            exact ⟨rfl, B8⟩
          · have hte : timeErr (v * 6000 + x * 100 + h) = 1 := by unfold timeErr; rw [if_neg hTm]
            have hF : (A1, A2) = (0, 1) := by
              rw [hRR.out]; unfold finT; rw [if_neg (by omega)]
            injection hF with a1 a2
            subst a1 a2
            rw [hte]
            clear hte hTm
            go_wp2
            go_ret2
            exact ⟨rfl, B8⟩
      · have hq3 : ¬ SS.toList = (itoaS x).toList := by rw [hIt, hSt'.out]; exact hq
        have hq4 : (SS.toList == (itoaS x).toList) = false := beq_eq_false_iff_ne.2 hq3
        have hrr := Lib.hid (hrest.out (.inr (.inr (.inr (.inr (.inl ⟨rfl, hq⟩))))))
        clear hIt hq hq3
        generalize itoaS x = I at *
        go_wp2_with fail
        refine hit.out.mono ?_; rintro e w8 ⟨rfl, B8⟩
        replace B8 := below_next B7 B8
        go_wp2
        go_ret2
        exact hz _ B8 hrr.out
    · by_cases hv0 : v = 0
      · have hrr := Lib.hid (hrest.out (.inr (.inr (.inr (.inl ⟨rfl, .inl hv0⟩)))))
        have hvb : (v == 0) = true := by simpa using hv0
        clear hv0 hrest hg
        go_wp2
        all_goals first | (exfalso; omega) | (go_ret2; exact hz _ B7 hrr.out)
      · have hvb : (v == 0) = false := beq_eq_false_iff_ne.2 hv0
        have hv0' := Lib.hid hv0
        clear hv0
        by_cases hs2 : SS.size = 2
        · have hs2' := Lib.hid hs2
          by_cases hx9 : 59 < x
          · have hrr := Lib.hid (hrest.out (.inr (.inr (.inr (.inr (.inr hx9))))))
            go_wp2
            go_ret2
            exact hz _ B7 hrr.out
          · have hRR : Hid ((A1, A2) = finT v x h) := Lib.hid (by
              rw [hg.out]; unfold restR
              rw [if_neg, if_neg]
              · rintro (h1 | h1 | h1)
                · rcases h1.2 with h2 | h2
                  · exact hv0'.out h2
                  · exact h2 (by rw [← zs'.out]; exact hs2'.out)
                · cases h1.1
                · exact hx9 h1
              · rintro (h1 | h1 | h1)
                · have := hm'.out; omega
                · exact h1 (by rw [← zr'.out]; exact hl1'.out)
                · rw [List.all_append, hd'.out.1, hd'.out.2] at h1; cases h1)
            clear hrest hg
            have hx0 : ¬ 59 < x := hx9
            have k0 : IntKind.i64.wrap (v * 6000) = v * 6000 := IntWalk.i64_in _ (by omega)
            have k1 : IntKind.i64.wrap (x * 100) = x * 100 := IntWalk.i64_in _ (by omega)
            have k2 : IntKind.i64.wrap (v * 6000 + x * 100) = v * 6000 + x * 100 := IntWalk.i64_in _ (by omega)
            have k3 : IntKind.i64.wrap (v * 6000 + x * 100 + h) = v * 6000 + x * 100 + h := IntWalk.i64_in _ (by omega)
            go_wp2_with fail
            refine (timeFault_c _ _).mono ?_; rintro e w' ⟨rfl, rfl⟩
            by_cases hTm : 1 ≤ v * 6000 + x * 100 + h ∧ v * 6000 + x * 100 + h ≤ 360000
            · have hte : timeErr (v * 6000 + x * 100 + h) = 0 := by unfold timeErr; rw [if_pos hTm]
              have hF : (A1, A2) = (v * 6000 + x * 100 + h, 0) := by
                rw [hRR.out]; unfold finT; rw [if_pos (by omega)]; congr 1; omega
              injection hF with a1 a2
              subst a1 a2
              rw [hte]
              clear hte hTm
              go_wp2
              go_ret2
              exact ⟨rfl, B7⟩
            · have hte : timeErr (v * 6000 + x * 100 + h) = 1 := by unfold timeErr; rw [if_neg hTm]
              have hF : (A1, A2) = (0, 1) := by
                rw [hRR.out]; unfold finT; rw [if_neg (by omega)]
              injection hF with a1 a2
              subst a1 a2
              rw [hte]
              clear hte hTm
              go_wp2
              go_ret2
              exact ⟨rfl, B7⟩
        · have hs3 : ((SS.size : Int) != 2) = true := by simpa using (by omega : ¬ (SS.size : Int) = 2)
          have hrr := Lib.hid (hrest.out (.inr (.inr (.inr (.inl ⟨rfl, .inr (by rw [← zs'.out]; exact hs2)⟩)))))
          go_wp2
          go_ret2
          exact hz _ B7 hrr.out
end Go.Proofs.YtklggnglaeagpaaGreatDoor
