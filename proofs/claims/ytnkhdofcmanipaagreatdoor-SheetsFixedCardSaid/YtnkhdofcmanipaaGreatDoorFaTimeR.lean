import Derived.Test.YtnkhdofcmanipaaGreatDoorFaTxtP
import Derived.Test.YtnkhdofcmanipaaGreatDoorFaReady4
import Derived.IntWalk
import Derived.Lib.AtoiErrMem
import Derived.BigQuiet
import Derived.Deep.QuietTactic
import Derived.Test.YtnkhdofcmanipaaGreatDoorFaRows2
import Derived.Lib.ItoaLen
import Derived.Lib.AtoiBound
import Derived.BigGuardPart
/- timing.Write, timing.Parse: the walk. -/
namespace Go.Proofs.YtnkhdofcmanipaaGreatDoor
open Go.RowKit
set_option linter.unusedVariables false
set_option linter.unusedSimpArgs false

def digs : List UInt8 := [48, 49, 50, 51, 52, 53, 54, 55, 56, 57]
def trimD (s : ByteArray) : ByteArray := ⟨(Lib.trimS s.data.toList digs).toArray⟩
theorem trimD_c (s : ByteArray) (w : World) (hs : s.size ≤ 1000) : Calls Tryz.prog 98 #[.string s, .string ⟨#[48, 49, 50, 51, 52, 53, 54, 55, 56, 57]⟩] w
    fun e w' => e = .returned (.string (trimD s)) ∧ Below w.heap.size w w' :=
  Any.strings_Trim_laid Tryz.lays160 (by kernel_rfl) s ⟨#[48, 49, 50, 51, 52, 53, 54, 55, 56, 57]⟩ w (by omega) (by decide) (ascii_of_all (by decide))
theorem digs_has (b : UInt8) : digs.contains b = dig b := by
  have h : ∀ n : Fin 256, digs.contains (UInt8.ofNat n.val) = dig (UInt8.ofNat n.val) := by decide +kernel
  have := h ⟨b.toNat, b.toNat_lt⟩
  simpa using this
theorem dropWhile_nil {α : Type} (p : α → Bool) : ∀ (l : List α), l.dropWhile p = [] ↔ ∀ x ∈ l, p x = true
  | [] => by simp
  | x :: l => by
    rw [List.dropWhile_cons]
    by_cases h : p x = true
    · rw [if_pos h, dropWhile_nil p l]; simp [h]
    · rw [if_neg h]; simp [h]
theorem dropWhile_head {α : Type} (p : α → Bool) : ∀ (l : List α) (x : α) (r : List α), l.dropWhile p = x :: r → p x = false
  | [], x, r, h => by simp at h
  | y :: l, x, r, h => by
    rw [List.dropWhile_cons] at h
    by_cases hp : p y = true
    · rw [if_pos hp] at h; exact dropWhile_head p l x r h
    · rw [if_neg hp] at h
      injection h with h1 h2
      subst h1; simpa using hp
theorem trimD_all (s : ByteArray) : (trimD s).data.toList.isEmpty = s.data.toList.all dig := by
  have e1 : (trimD s).data.toList = (s.data.toList.reverse.dropWhile (digs.contains ·)).reverse.dropWhile (digs.contains ·) := by
    simp [trimD, Lib.trimS, Lib.trimLeftS, Lib.trimRightS]
  rw [e1, Bool.eq_iff_iff, List.isEmpty_iff, dropWhile_nil, List.all_eq_true]
  constructor
  · intro h
    have h2 : s.data.toList.reverse.dropWhile (digs.contains ·) = [] := by
      rcases hd : s.data.toList.reverse.dropWhile (digs.contains ·) with _ | ⟨x, r⟩
      · rfl
      · have h3 := dropWhile_head _ _ _ _ hd
        have h4 := h x (by rw [hd]; simp)
        rw [h3] at h4; cases h4
    rw [dropWhile_nil] at h2
    intro x hx
    rw [← digs_has]; exact h2 x (by simpa using hx)
  · intro h x hx
    have h2 : s.data.toList.reverse.dropWhile (digs.contains ·) = [] := by
      rw [dropWhile_nil]
      intro y hy
      rw [digs_has]; exact h y (by simpa using hy)
    rw [h2] at hx
    simp at hx
set_option maxHeartbeats 1600000 in
set_option maxRecDepth 100000 in
theorem number_c (s : ByteArray) (most : Nat) (w : World) (hs : s.size ≤ 18) (hm : most ≤ 17) : Calls Tryz.prog 155 #[.string s, .int .i64 most] w fun e w' => e = .returned (.tuple #[.int .i64 ((numP s.data.toList most).getD 0), .bool (numP s.data.toList most).isSome]) ∧ Below w.heap.size w w' := by
  have hts : (⟨(Lib.trimPrefix s.data.toList [45]).toArray⟩ : ByteArray).size ≤ 18 := by
    show (Lib.trimPrefix s.data.toList [45]).toArray.size ≤ 18
    rw [List.size_toArray]
    unfold Lib.trimPrefix
    have := Lib.size_eq s
    split
    · rw [List.length_drop]; omega
    · omega
  have hN : numP s.data.toList most = if numBad (Lib.trimPrefix s.data.toList [45]) (Lib.hasPrefix s.data.toList [45]) most = true then none else Lib.atoi s.data.toList := rfl
  have hCP := Lib.hid (Tryz.strings_CutPrefix s ⟨#[45]⟩ w)
  have hNs := fun h => num_some (l := s.data.toList) (most := most) h
  have hTl : (⟨(Lib.trimPrefix s.data.toList [45]).toArray⟩ : ByteArray).data.toList = Lib.trimPrefix s.data.toList [45] := by simp
  rw [hN]
  rw [show (⟨#[45]⟩ : ByteArray).data.toList = [45] from rfl] at hCP
  generalize Lib.hasPrefix s.data.toList [45] = neg at *
  rw [← hTl] at hNs ⊢
  generalize (⟨(Lib.trimPrefix s.data.toList [45]).toArray⟩ : ByteArray) = t at *
  clear hN hTl
  have hT := Lib.hid (fun W => trimD_c t W (by omega))
  have hA := trimD_all t
  have hlen : t.toList.length = t.size := by rw [ByteArray.toList_eq]; exact (Lib.size_eq t).symm
  have hh : ∀ h : 0 < t.size, t.toList.headD 0 = t[0] := fun h => by rw [ByteArray.toList_eq]; exact head_of t h
  rw [← ByteArray.toList_eq] at hA hNs ⊢
  rw [← ByteArray.toList_eq] at hA
  have hA' := Lib.hid hA
  have hh' := Lib.hid hh
  have hlen' := Lib.hid hlen
  clear hA hh hlen
  generalize trimD t = tr at *
  have hR1 : numBad t.toList neg most = true → (Ending.returned (.tuple #[.int .i64 0, .bool false])) = Ending.returned (.tuple #[.int .i64 ((if numBad t.toList neg most = true then none else Lib.atoi s.data.toList).getD 0), .bool (if numBad t.toList neg most = true then none else Lib.atoi s.data.toList).isSome]) := fun h => by rw [if_pos h]; rfl
  have hR2 : ∀ n, numBad t.toList neg most = false → Lib.atoi s.data.toList = some n → (Ending.returned (.tuple #[.int .i64 n, .bool true])) = Ending.returned (.tuple #[.int .i64 ((if numBad t.toList neg most = true then none else Lib.atoi s.data.toList).getD 0), .bool (if numBad t.toList neg most = true then none else Lib.atoi s.data.toList).isSome]) := fun n h h2 => by rw [if_neg (by rw [h]; decide), h2]; rfl
  generalize Ending.returned (.tuple #[.int .i64 ((if numBad t.toList neg most = true then none else Lib.atoi s.data.toList).getD 0), .bool (if numBad t.toList neg most = true then none else Lib.atoi s.data.toList).isSome]) = R at *
  have hAt := Lib.hid (fun n h W => Tryz.strconv_Atoi s n hs h W)
  generalize Lib.atoi s.data.toList = AT at *
  have hR1' := Lib.hid hR1
  have hR2' := Lib.hid hR2
  have hNs' := Lib.hid hNs
  clear hR1 hR2 hNs
  go_enter Tryz.func155, Tryz.ntmps155
  go_wp2_with fail
  refine hCP.out.mono ?_; rintro e w1 ⟨rfl, rfl⟩
  go_wp2_with (go_at_call 98; refine (hT.out _).mono ?_; rintro e w1 ⟨rfl, B1⟩)
  · go_ret2
    rename_i h1
    exact ⟨hR1'.out (by unfold numBad; simp [h1]), Below.refl _ _⟩
  · go_ret2
    rename_i h1 h2
    exact ⟨hR1'.out (by unfold numBad; simp [h1, hlen'.out, h2]), Below.refl _ _⟩
  · go_ret2
    rename_i h1 h2 h3
    exact ⟨hR1'.out (by unfold numBad; simp [h1, hlen'.out, ← hA'.out, h3]), B1⟩
  · go_ret2
    rename_i h1 h2 h3 h4 h5 h6
    have h7 : t[0] = 48 := UInt8.toNat_inj.1 (by show t[0].toNat = 48; omega)
    exact ⟨hR1'.out (by unfold numBad; rw [hh'.out h4, h7]; simp [h6]), B1⟩
  · go_ret2
    rename_i h1 h2 h3 h4 h5 h6 h7
    have h8 : t[0] = 48 := UInt8.toNat_inj.1 (by show t[0].toNat = 48; omega)
    exact ⟨hR1'.out (by unfold numBad; rw [hh'.out h4, h8]; simp [h7]), B1⟩
  · have hb : numBad t.toList neg most = false := by
      have h1 : t.toList.isEmpty = false := by assumption
      have h2 : ¬ most < t.size := by assumption
      have h3 : tr.toList.isEmpty = true := by assumption
      have h6 : t.toList = [48] := by assumption
      have h7 : neg = false := by assumption
      unfold numBad
      rw [h1, hlen'.out, ← hA'.out, h3, h6, h7]
      simp [h2]
    obtain ⟨n, hn⟩ := hNs'.out hb
    refine (hAt.out n hn _).mono ?_; rintro e w3 ⟨rfl, q, hw3⟩
    have B0 := Lib.bytesWorld_below w1 5 q
    rw [← hw3] at B0
    have B3 := below_next B1 B0
    clear hAt hNs' hR1' hw3 B0 B1
    go_wp2_with fail
    go_quiet (fail)
    go_wp2
    go_ret2
    exact ⟨hR2'.out n hb hn, below_drewN B3 _⟩
  · have hb : numBad t.toList neg most = false := by
      have h1 : t.toList.isEmpty = false := by assumption
      have h2 : ¬ most < t.size := by assumption
      have h3 : tr.toList.isEmpty = true := by assumption
      have h4 : 0 < t.size := by assumption
      have h5 : ¬ (t[0].toNat : Int) = 48 := by assumption
      have h6 : t[0] ≠ 48 := fun e => h5 (by rw [e]; rfl)
      unfold numBad
      rw [h1, hlen'.out, ← hA'.out, h3, hh'.out h4]
      simp [h2, h6]
    obtain ⟨n, hn⟩ := hNs'.out hb
    refine (hAt.out n hn _).mono ?_; rintro e w3 ⟨rfl, q, hw3⟩
    have B0 := Lib.bytesWorld_below w1 5 q
    rw [← hw3] at B0
    have B3 := below_next B1 B0
    clear hAt hNs' hR1' hw3 B0 B1
    go_wp2_with fail
    go_quiet (fail)
    go_wp2
    go_ret2
    exact ⟨hR2'.out n hb hn, below_drewN B3 _⟩
  · exfalso
    have h1 : t.toList.isEmpty = false := by assumption
    have h4 : ¬ 0 < t.size := by assumption
    have h5 : t.toList = [] := List.eq_nil_of_length_eq_zero (by rw [hlen'.out]; omega)
    rw [h5] at h1; cases h1
/-- the library's own limit holds some int -/
def Mx (w : World) : Prop := ∃ m : Int, w.cell? ⟨0, 0, none⟩ = some (.int .i64 m)
theorem Mx.below {w w' : World} (h : Mx w) (hb : Below w.heap.size w w') : Mx w' := by
  obtain ⟨m, hm⟩ := h
  exact ⟨m, by rw [hb.cell (by exact World.block_lt_of_cell? _ _ hm)]; exact hm⟩
end Go.Proofs.YtnkhdofcmanipaaGreatDoor

/- The reference's Int and ParsedOf: the walk. -/
namespace Go.Proofs.YtnkhdofcmanipaaGreatDoor
open Go.RowKit
set_option linter.unusedVariables false

/-- the error of a wrong numeral is there -/
def Ex (w : World) : Prop := ∃ tp p, w.var? Tryz.prog "strconv.ErrSyntax" = some #[.iface tp p]
theorem Ex.below {w w' : World} (h : Ex w) (hb : Below w.heap.size w w') : Ex w' := by
  obtain ⟨tp, p, h⟩ := h
  refine ⟨tp, p, ?_⟩
  unfold World.var? at h ⊢
  rcases hg : Program.globalNamed Tryz.prog "strconv.ErrSyntax" with _ | g
  · rw [hg] at h; cases h
  · rw [hg] at h
    simp only [Option.bind_some] at h ⊢
    have hlt : g < w.heap.size := by
      rcases Nat.lt_or_ge g w.heap.size with h' | h'
      · exact h'
      · rw [Array.getElem?_eq_none h'] at h; cases h
    rw [hb.block g hlt]
    exact h
theorem atoiX_c (s : ByteArray) (w : World) (hs : s.size ≤ 18) (hE : Ex w) : Calls Tryz.prog 161 #[.string s] w fun e w' => (∃ n, Lib.atoi s.data.toList = some n ∧ e = .returned (.tuple #[.int .i64 n, .nilIface]) ∧ Below w.heap.size w w') ∨ (Lib.atoi s.data.toList = none ∧ ∃ T N, e = .returned (.tuple #[.int .i64 0, .iface T (.pointer (some ⟨N, 0, none⟩))]) ∧ Below w.heap.size w w') := by
  rcases hA : Lib.atoi s.data.toList with _ | n
  · obtain ⟨tp, p, hv⟩ := hE
    refine (Tryz.strconv_Atoi_err_var s hs hA tp p w hv).mono ?_
    rintro e w' ⟨N, he, _, _, hb⟩
    exact .inr ⟨rfl, _, N, he, hb⟩
  · refine (Tryz.strconv_Atoi s n hs hA w).mono ?_
    rintro e w' ⟨he, q, rfl⟩
    exact .inl ⟨n, rfl, he, Lib.bytesWorld_below _ _ _⟩
theorem int_bd {l : List UInt8} {n : Int} (h : Lib.atoi l = some n) (hl : l.length ≤ 18) : -1000000000000000000 < n ∧ n < 1000000000000000000 := Lib.atoi_bound h hl
end Go.Proofs.YtnkhdofcmanipaaGreatDoor
