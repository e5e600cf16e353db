/- ScratchedAreGone: who is taken out is gone, all others keep their lanes; a lane that is given is no longer empty: the walk. Printed by wip/mkl51.py. -/
import Derived.Test.YtffhobmkbabllaaGreatDoorStaZ
import Derived.Test.YtffhobmkbabllaaGreatDoorPoolM
import Derived.Test.YtffhobmkbabllaaGreatDoorP51
import Derived.Test.YtffhobmkbabllaaGreatDoorStaN
import Derived.Test.YtffhobmkbabllaaGreatDoorGoneC
import Derived.Test.YtffhobmkbabllaaGreatDoorReady
import Derived.Deep.DeepCutAuto
import Derived.Deep.RegionHeld3
namespace Go.Proofs.YtffhobmkbabllaaGreatDoor
open Go.RowKit Go.Shelf Go.Lib Go.Sort
set_option linter.unusedVariables false

def scB (z x : Sp) : Bool := decide (x.who = z.who) && (decide (x.lane = z.lane) && decide (z.heat ≤ x.heat))
set_option maxHeartbeats 1600000 in
set_option maxRecDepth 100000 in
theorem scB_c (p1 : Nat) (z x : Sp) (w : World) (h1 : w.heap[p1]? = some (.cells #[.string z.who, .int .i64 z.heat, .int .i64 z.lane] 90 (0, 0))) :
    Calls Tryz.prog 69 #[.agg (spE x).toArray, .pointer (some ⟨p1, 0, none⟩)] w fun e w' => e = .returned (.bool (scB z x)) ∧ Below w.heap.size w w' := by
  obtain ⟨xw, xh, xl⟩ := x
  obtain ⟨zw, zh, zl⟩ := z
  have hA := Lib.hid (show scB ⟨zw, zh, zl⟩ ⟨xw, xh, xl⟩ = (decide (xw = zw) && (decide (xl = zl) && decide (zh ≤ xh))) from rfl)
  generalize scB ⟨zw, zh, zl⟩ ⟨xw, xh, xl⟩ = R at *
  dsimp only [spE] at *
  have hBn := below_new w (.cells #[.string xw, .int .i64 xh, .int .i64 xl] 90)
  have hn0 := heap_alloc_new w (.cells #[.string xw, .int .i64 xh, .int .i64 xl] 90)
  have a0 := (blk_facts (blk_below h1 hBn)).1 0
  have a1 := (blk_facts (blk_below h1 hBn)).1 1
  have a2 := (blk_facts (blk_below h1 hBn)).1 2
  have x0 := (blk_facts hn0).1 0
  have x1 := (blk_facts hn0).1 1
  have x2 := (blk_facts hn0).1 2
  have hl1 := lt_of_heap h1
  have hcase : (R = true ∧ (xw.toList == zw.toList) = true ∧ (xl == zl) = true ∧ decide (zh ≤ xh) = true) ∨ (R = false ∧ (((xw.toList == zw.toList) = false) ∨ ((xw.toList == zw.toList) = true ∧ (((xl == zl) = false) ∨ ((xl == zl) = true ∧ decide (zh ≤ xh) = false))))) := by
    by_cases e1 : xw = zw
    · have b1 : (xw.toList == zw.toList) = true := by rw [e1]; exact beq_self_eq_true _
      by_cases e2 : xl = zl
      · have b2 : (xl == zl) = true := by rw [e2]; exact beq_self_eq_true _
        by_cases e3 : zh ≤ xh
        · exact .inl ⟨by rw [hA.out, decide_eq_true e1, decide_eq_true e2, decide_eq_true e3]; rfl, b1, b2, decide_eq_true e3⟩
        · exact .inr ⟨by rw [hA.out, decide_eq_true e1, decide_eq_true e2, decide_eq_false e3]; rfl, .inr ⟨b1, .inr ⟨b2, decide_eq_false e3⟩⟩⟩
      · exact .inr ⟨by rw [hA.out, decide_eq_true e1, decide_eq_false e2]; rfl, .inr ⟨b1, .inl (beq_eq_false_iff_ne.2 e2)⟩⟩
    · exact .inr ⟨by rw [hA.out, decide_eq_false e1]; rfl, .inl (str_neS e1)⟩
  clear hA hn0 h1
  rcases hcase with ⟨rfl, b1, b2, b3⟩ | ⟨rfl, b1 | ⟨b1, b2 | ⟨b2, b3⟩⟩⟩
  all_goals
    go_enter Tryz.func69, Tryz.ntmps69
    go_wp2
    go_ret
    exact ⟨by first | rfl | simp_all, hBn⟩
set_option maxRecDepth 100000 in
theorem idxSc_c (p : Sp → Bool) (p1 : Nat) (A : Option Addr) (n c : Nat) (l : List Sp) (w : World) (h : RSp w A n l) (hP : ∀ (x : Sp), x ∈ l → ∀ W, Below w.heap.size w W → Calls Tryz.prog 69 #[.agg (spE x).toArray, .pointer (some ⟨p1, 0, none⟩)] W fun e w' => e = .returned (.bool (p x)) ∧ Below W.heap.size W w') :
    Calls Tryz.prog 66 #[.slice A n c, .func (.func 69) #[] #[.pointer (some ⟨p1, 0, none⟩)]] w fun e w' => ∃ i : Int, e = .returned (.int .i64 i) ∧ (decide (0 ≤ i) = l.any p) ∧ Below w.heap.size w w' := by
  have hz := Lib.hid hP
  have hR := Lib.hid (fun W B => h.below (w' := W) B)
  have hl := Lib.hid h.len
  have hbd := h.bd
  clear hP h
  go_enter Tryz.func66, Tryz.ntmps66
  go_wp2_with fail
  go_loopw [8] (fun i wr => ∃ k : Nat, k ≤ n ∧ i = .int .i64 k ∧ Below w.heap.size w wr ∧ Hid (∀ x ∈ l.take k, p x = false)) (fun i _ => n - (intOf i).toNat)
  case atStart => exact ⟨0, Nat.zero_le _, rfl, Below.refl _ _, Lib.hid (fun x hx => by simp at hx)⟩
  case round =>
    rename World => wr
    obtain ⟨k, hk, rfl, hB, hF⟩ := hrel
    by_cases hlt : k < n
    · obtain ⟨b, off, x, rfl, hbl, hx, c0, c1, c2⟩ := RSp_at3 (hR.out _ hB) hlt
      have hx' := Lib.hid hx
      have hzx := Lib.hid (hz.out x (List.mem_of_getElem? hx) wr hB)
      obtain ⟨pb, hpb⟩ : ∃ pb, p x = pb := ⟨_, rfl⟩
      rw [hpb] at hzx
      have hpb' := Lib.hid hpb
      have hnext := Lib.hid (fun (h0 : pb = false) => show ∀ y ∈ l.take (k + 1), p y = false from fun y hy => by
        rw [List.take_add_one, hx'.out] at hy
        rcases List.mem_append.1 hy with hy | hy
        · exact hF.out y hy
        · simp at hy; subst hy; rw [hpb'.out, h0])
      have hfound := Lib.hid (fun (h0 : pb = true) => show decide (0 ≤ (k : Int)) = l.any p by
        rw [decide_eq_true (by omega), eq_comm, List.any_eq_true]
        exact ⟨_, List.mem_of_getElem? hx'.out, by rw [hpb'.out, h0]⟩)
      obtain ⟨xw, xh, xl⟩ := x
      dsimp only [spE] at *
      clear hx hpb hF hx' hpb'
      cases pb
      · have hF2 := Lib.hid (hnext.out rfl)
        clear hnext hfound
        go_wp2_with fail
        refine hzx.out.mono ?_; rintro e w1 ⟨rfl, B1⟩
        have hB1 := below_next hB B1
        go_wp2
        go_roundw
        case rel => exact ⟨k + 1, by omega, by go_num, hB1, hF2⟩
        case measure => simp [intOf]; omega
      · have hI := Lib.hid (hfound.out rfl)
        clear hnext hfound
        go_wp2_with fail
        refine hzx.out.mono ?_; rintro e w1 ⟨rfl, B1⟩
        have hB1 := below_next hB B1
        go_wp2
        go_ret
        exact ⟨_, rfl, hI.out, hB1⟩
    · obtain rfl : k = n := by omega
      have hI := Lib.hid (show decide (0 ≤ (-1 : Int)) = l.any p by
        rw [decide_eq_false (by decide), eq_comm, List.any_eq_false]
        intro x hx
        have := hF.out x (by rw [List.take_of_length_le (by rw [hl.out]; exact Nat.le_refl _)]; exact hx)
        simp [this])
      go_wp2
      go_ret
      exact ⟨_, rfl, hI.out, hB⟩
theorem hasSc_c (p : Sp → Bool) (p1 : Nat) (A : Option Addr) (n c : Nat) (l : List Sp) (w : World) (h : RSp w A n l) (hP : ∀ (x : Sp), x ∈ l → ∀ W, Below w.heap.size w W → Calls Tryz.prog 69 #[.agg (spE x).toArray, .pointer (some ⟨p1, 0, none⟩)] W fun e w' => e = .returned (.bool (p x)) ∧ Below W.heap.size W w') :
    Calls Tryz.prog 68 #[.slice A n c, .func (.func 69) #[] #[.pointer (some ⟨p1, 0, none⟩)]] w fun e w' => e = .returned (.bool (l.any p)) ∧ Below w.heap.size w w' := by
  have hI := Lib.hid (idxSc_c p p1 A n c l w h hP)
  clear hP h
  go_enter Tryz.func68, Tryz.ntmps68
  go_wp2_with fail
  refine hI.out.mono ?_; rintro e w1 ⟨i, rfl, hi, B1⟩
  have hi' := Lib.hid hi
  clear hi
  go_wp2
  go_ret
  exact ⟨by rw [← hi'.out]; rfl, B1⟩
theorem zz_key : keyB ⟨#[122, 122]⟩ = true := by kernel_rfl
theorem zz_seed : seedErr [⟨⟨#[122, 122]⟩, 0⟩] = 0 := by kernel_rfl
theorem zz_late {p : Pl} {y : List Sp} (h : SOk p y) (hy : y.length ≤ 200) (hz : NoZ y) : lateErr p y ⟨⟨#[122, 122]⟩, 0⟩ = 0 ∧ ∀ L b, LateQ p y ⟨⟨#[122, 122]⟩, 0⟩ L b → (emptyL p y = [] ∧ L = y ∧ b = false) ∨ (b = true ∧ startsErr p L = 0 ∧ (emptyL p L).length + 1 = (emptyL p y).length) := by
  have hw : (⟨#[122, 122]⟩ : ByteArray) ∉ y.map Sp.who := fun h9 => by
    obtain ⟨x, hx, e⟩ := List.mem_map.1 h9
    exact hz x hx e
  have h0 : lateErr p y ⟨⟨#[122, 122]⟩, 0⟩ = 0 := by
    unfold lateErr
    rw [if_neg (not_not_intro ((SOk.iff p y).2 h)), if_neg (not_not_intro zz_seed), if_neg (fun h9 => hw ((Lib.containsS_iff _ _).1 h9)), if_neg (by omega)]
  refine ⟨h0, fun L b hq => ?_⟩
  unfold LateQ at hq
  rw [if_neg (not_not_intro h0)] at hq
  cases he : emptyL p y with
  | nil => rw [he] at hq; exact .inl ⟨rfl, hq.1, hq.2⟩
  | cons f r =>
    rw [he] at hq
    dsimp only at hq
    obtain ⟨k1, k2⟩ := late_ok h hy zz_key hw (f := f) (by rw [he]; exact List.mem_cons_self ..) (by rw [he]; exact hq.2)
    exact .inr ⟨hq.1, (SOk.iff p L).2 k1, by rw [← he]; exact k2⟩
theorem sc_any {p : Pl} {x : List Sp} (h : SOk p x) (who : List ByteArray) {z : Sp} (hz : z ∈ scrL who x) : x.any (scB z) = true := by
  obtain ⟨y, y1, y2, y3, y4⟩ := (scr_ok h who).2 z hz
  rw [List.any_eq_true]
  exact ⟨y, y1, by unfold scB; rw [decide_eq_true y2, decide_eq_true y3, decide_eq_true y4]; rfl⟩
set_option maxHeartbeats 12800000 in
set_option maxRecDepth 100000 in
theorem scratchedAreGone_walk (a0 : Option Addr) (len0 cap0 : Nat) (z0 : List Int) (w : World) (w0 : IsRow .i64 w a0 len0 cap0 z0) (htab : Tb w) :
    Calls Tryz.prog 9 #[.slice a0 len0 cap0] w fun e w' => e = .returned (.bool true) ∧ Below w.heap.size w w' := by
  have hs := law_start w0
  clear w0
  generalize z0.take len0 = zs at *
  go_enter Tryz.func9, Tryz.ntmps9
  go_wp2_with fail
  have hs' : St (w.alloc (.cells #[.slice a0 len0 cap0, .int .i64 0] 25)) w.heap.size zs 0 := hs
  have hB1 := below_new w (.cells #[.slice a0 len0 cap0, .int .i64 0] 25)
  refine (poolOf_c _ zs 0 _ hs' (by omega)).mono ?_; rintro e w2 ⟨lo, hi, le, ci, k2, rfl, p0, p1, p2, p3, s2, hk2, g2⟩
  have hB2 := hB1.trans (grown_below g2 (Nat.le_refl _) hB1.size)
  have hbd : PlBd ⟨lo, hi, le, ci⟩ := ⟨p0, p1⟩
  have hz2 := hB2.size
  have hp2 : PoolB w2.heap.size ⟨lo, hi, le, ci⟩ (w2.alloc (.cells #[.int .i64 lo, .int .i64 hi, .int .i64 le, .int .i64 ci] 72)) := heap_alloc_new w2 _
  have s3 := s2.alloc (.cells #[.int .i64 lo, .int .i64 hi, .int .i64 le, .int .i64 ci] 72)
  have hB3 := hB2.alloc hB2.size (.cells #[.int .i64 lo, .int .i64 hi, .int .i64 le, .int .i64 ci] 72)
  obtain ⟨z0', z1, z2, z3⟩ := hp2.at_
  clear hs hs' hB1 g2 hB2 s2 p0 p1 p2 p3
  dsimp only at z0' z1 z2 z3
  go_wp2_with fail
  generalize hw3 : w2.alloc (.cells #[.int .i64 lo, .int .i64 hi, .int .i64 le, .int .i64 ci] 72) = w3 at *
  generalize w2.heap.size = b4 at *
  clear hw3
  refine (startListZ_c ⟨lo, hi, le, ci⟩ hbd _ zs k2 w3 w s3 (by omega) htab hB3 (Nat.le_refl _)).mono ?_; rintro e w4 ⟨A, n, c, x, k4, rfl, ho4, hn20, hzx, s4, hk4, g4⟩
  have hx4 : RSp w4 A n x := RN.of_own spE_len ho4 (own_len spE_len (by decide) ho4) (by omega)
  have hp4 : PoolB b4 ⟨lo, hi, le, ci⟩ w4 := (s3.keep g4) _ _ _ _ (by decide) hp2
  have hB4 := hB3.trans (grown_below g4 (Nat.le_refl _) hB3.size)
  clear hp2 s3 hB3 g4 ho4 z0' z1 z2 z3
  have hPF := Lib.hid (fun W => poolFault_c ⟨lo, hi, le, ci⟩ hbd W)
  obtain ⟨z0', z1, z2, z3⟩ := hp4.at_
  dsimp only at z0' z1 z2 z3
  by_cases hP : poolErr ⟨lo, hi, le, ci⟩ = 0
  rotate_left
  · have hd : (poolErr ⟨lo, hi, le, ci⟩ != 0) = true := by simpa using hP
    clear hP
    generalize poolErr ⟨lo, hi, le, ci⟩ = PE at *
    go_wp2_with fail
    refine (hPF.out _).mono ?_; rintro e wN ⟨rfl, BN⟩
    have hBN := below_next hB4 BN
    clear hPF BN z0' z1 z2 z3 hx4 hp4 s4
    go_wp2_with fail
    refine (ready_c _).mono ?_; rintro e wM ⟨rfl, BM⟩
    have hB := below_next hBN BM
    go_wp2
    go_ret
    exact ⟨rfl, hB⟩
  have hSF := Lib.hid (fun W h => startsFault_c ⟨lo, hi, le, ci⟩ hP A n c x W h)
  rw [hP] at hPF
  have hP' := Lib.hid hP
  clear hP
  by_cases hS : startsErr ⟨lo, hi, le, ci⟩ x = 0
  rotate_left
  · have hd : (startsErr ⟨lo, hi, le, ci⟩ x != 0) = true := by simpa using hS
    clear hS
    generalize startsErr ⟨lo, hi, le, ci⟩ x = SE at *
    go_wp2_with fail
    refine (hPF.out _).mono ?_; rintro e wN ⟨rfl, BN⟩
    have hBN := below_next hB4 BN
    have hxN := hx4.below BN
    have hpN := PoolB.keep _ _ hp4 BN
    clear hPF BN z0' z1 z2 z3 hx4 hp4 s4
    obtain ⟨z0', z1, z2, z3⟩ := hpN.at_
    dsimp only at z0' z1 z2 z3
    go_wp2_with fail
    refine (hSF.out _ hxN).mono ?_; rintro e wO ⟨rfl, BO⟩
    have hBO := below_next hBN BO
    clear hSF BO hxN
    go_wp2_with fail
    refine (ready_c _).mono ?_; rintro e wM ⟨rfl, BM⟩
    have hB := below_next hBO BM
    go_wp2
    go_ret
    exact ⟨rfl, hB⟩
  have hOk := Lib.hid ((SOk.iff _ _).1 hS)
  rw [hS] at hSF
  clear hS
  go_wp2_with fail
  refine (hPF.out _).mono ?_; rintro e wN ⟨rfl, BN⟩
  have hBN := below_next hB4 BN
  have hxN := hx4.below BN
  have hpN := PoolB.keep _ _ hp4 BN
  have sN := s4.below BN
  clear hPF BN z0' z1 z2 z3 hx4 hp4 s4 hB4
  obtain ⟨z0', z1, z2, z3⟩ := hpN.at_
  dsimp only at z0' z1 z2 z3
  go_wp2_with fail
  refine (hSF.out _ hxN).mono ?_; rintro e w4' ⟨rfl, BO⟩
  have hB4 := below_next hBN BO
  have hx4 := hxN.below BO
  have hp4 := PoolB.keep _ _ hpN BO
  have s4 := sN.below BO
  clear hSF BO hxN hpN sN hBN z0' z1 z2 z3
  go_wp2_with fail
  refine (startNames_c A n c x _ hx4 (by omega)).mono ?_; rintro e w5 ⟨A5, n5, c5, rfl, rn5, B5⟩
  obtain rfl : n5 = n := by rw [← rn5.len, List.length_map]; exact hx4.len
  have s5 := s4.below B5
  have hx5 := hx4.below B5
  have hp5 := PoolB.keep _ _ hp4 B5
  have hB5 := below_next hB4 B5
  clear s4 hx4 hp4 hB4 B5
  go_wp2_with fail
  refine (taken_c _ zs k4 n5 c5 A5 _ _ s5 (by omega) (by omega) rn5).mono ?_; rintro e w6 ⟨B, m, d, who, k6, rfl, rw6, hcap, hm, s6, hk6, g6⟩
  have hx6 : RSp w6 A n5 x := hx5.keep (T := 25) (by decide) (s5.keep g6)
  have hp6 : PoolB b4 ⟨lo, hi, le, ci⟩ w6 := (s5.keep g6) _ _ _ _ (by decide) hp5
  have hB6 := hB5.trans (grown_below g6 (Nat.le_refl _) hB5.size)
  have hml := Lib.hid rw6.len
  have hxl := Lib.hid hx6.len
  have K : KX w (fun v => (RSp v A n5 x ∧ PoolB b4 ⟨lo, hi, le, ci⟩ v) ∧ RS 9 v B m who) w6 := ⟨⟨⟨hx6, hp6⟩, rw6⟩, fun a b q B => ⟨⟨q.1.1.below B, PoolB.keep _ _ q.1.2 B⟩, q.2.below B⟩, hB6⟩
  clear s5 hx5 hp5 hB5 g6 rn5 s6 hx6 hp6 hB6 rw6 hk2 hk4 hk6 hz2 htab
  go_wp2_with fail
  refine (startNames_c A n5 c x _ K.x.1.1 (by omega)).mono ?_; rintro e w7 ⟨A7, n7, c7, rfl, rn7, B7⟩
  replace K := K.below B7
  clear B7
  go_wp2_with fail
  refine (goneFault_c A7 B n7 c7 m d _ who _ rn7 K.x.2 hcap).mono ?_; rintro e wC ⟨rfl, rfl⟩
  clear rn7
  by_cases hg : goneErr (x.map Sp.who) who = 0
  rotate_left
  · have hd : (goneErr (x.map Sp.who) who != 0) = true := by simpa using hg
    generalize goneErr (x.map Sp.who) who = E at *
    clear hg
    go_wp2_with fail
    refine (ready_c _).mono ?_; rintro e wM ⟨rfl, BM⟩
    have hB := (K.below BM).bel
    go_wp2
    go_ret
    exact ⟨rfl, hB⟩
  have hyl := scr_len hOk.out.nd hg
  have hyo := Lib.hid (scr_ok hOk.out who).1
  have hzy := Lib.hid (NoZ.scr hzx who)
  have hany := Lib.hid (fun z hz => sc_any hOk.out who (z := z) hz)
  have hSE := Lib.hid (show scrErr ⟨lo, hi, le, ci⟩ x who = 0 by unfold scrErr; rw [if_neg (not_not_intro ((SOk.iff _ _).2 hOk.out))]; exact hg)
  have hSc := Lib.hid (fun W h h2 => scratch_c ⟨lo, hi, le, ci⟩ hbd A B n5 c m d x who W h h2 hcap (by omega))
  rw [hSE.out, if_pos rfl] at hSc
  rw [hg]
  have hg' := Lib.hid hg
  clear hg hzx hSE
  have hbd' := Lib.hid hbd
  generalize scrL who x = y at *
  obtain ⟨z0', z1, z2, z3⟩ := K.x.1.2.at_
  dsimp only [Pl.val] at *
  go_wp2_with fail
  refine (hSc.out _ K.x.1.1 K.x.2).mono ?_; rintro e w8 ⟨A8, n8, c8, rfl, hy8, hn8, hcap8, B8⟩
  have hyn := hy8.len
  have K2 := (K.below B8).add (Y := fun v => RSp v A8 n8 y) hy8 (fun _ _ h B => h.below B)
  have hE1 : n8 + m = n5 := by rw [← hml.out, ← hxl.out, ← hyn]; exact hyl
  have hCS := Lib.hid (fun W h => checkStarts_c ⟨lo, hi, le, ci⟩ hbd A8 n8 c8 y W h)
  rw [(SOk.iff _ _).2 hyo.out] at hCS
  have hEm := Lib.hid (fun W h => empty_c ⟨lo, hi, le, ci⟩ hbd A8 n8 c8 y W h)
  rw [(SOk.iff _ _).2 hyo.out, if_pos rfl] at hEm
  have hzl := zz_late hyo.out (by omega) hzy.out
  have hLa := Lib.hid (fun W h => late_c ⟨lo, hi, le, ci⟩ hbd A8 n8 c8 y ⟨⟨#[122, 122]⟩, 0⟩ W h (by omega))
  rw [hzl.1] at hLa
  have hLq := Lib.hid hzl.2
  have hEm2 := Lib.hid (fun A' n' c' L W h => empty_c ⟨lo, hi, le, ci⟩ hbd A' n' c' L W h)
  have hEq := Lib.hid (fun A1 A2 n c m d l W h1 h2 => show Calls Tryz.prog 50 #[.slice A1 n c, .slice A2 m d] W fun e w' => e = .returned (.bool true) ∧ Below W.heap.size W w' from (equalSp_c A1 A2 n c m d l l W h1 h2).mono fun e w' ⟨he, q, hq⟩ => ⟨by rw [he]; simp, by rw [hq]; exact below_drewN (Below.refl _ _) q⟩)
  have e1 : IntKind.i64.wrap ((n5 : Int) - (m : Int)) = (n8 : Int) := by rw [IntWalk.i64_in _ (by omega)]; omega
  have e2 : ((n8 : Int) != (n8 : Int)) = false := by simp
  clear hSc K B8 hy8 hyl hbd hzl z0' z1 z2 z3 hcap hcap8
  obtain ⟨z0', z1, z2, z3⟩ := K2.x.1.1.2.at_
  dsimp only [Pl.val] at *
  go_wp2_with fail
  refine (hCS.out _ K2.x.2).mono ?_; rintro e w9 ⟨rfl, B9⟩
  replace K2 := K2.below B9
  clear B9 hCS z0' z1 z2 z3
  obtain ⟨z0', z1, z2, z3⟩ := K2.x.1.1.2.at_
  dsimp only at z0' z1 z2 z3
  go_wp2_with fail
  clear e1 e2
  go_loopw [73] (fun i wr => ∃ k : Nat, k ≤ n8 ∧ i = .int .i64 k ∧ KX w (fun v => ((RSp v A n5 x ∧ PoolB b4 ⟨lo, hi, le, ci⟩ v) ∧ RS 9 v B m who) ∧ RSp v A8 n8 y) wr) (fun i _ => n8 - (intOf i).toNat)
  case atStart => exact ⟨0, Nat.zero_le _, rfl, K2⟩
  case round =>
    clear K2
    rename World => wr
    obtain ⟨k, hk, rfl, K⟩ := hrel
    by_cases hlt : k < n8
    · obtain ⟨b, off, z, rfl, hbl, hz, c0, c1, c2⟩ := RSp_at3 K.x.2 hlt
      have ha := Lib.hid (hany.out z (List.mem_of_getElem? hz))
      have K5 := K.below (below_new wr (.cells #[.string z.who, .int .i64 z.heat, .int .i64 z.lane] 90))
      have hH := Lib.hid (hasSc_c (scB z) wr.heap.size A n5 c x _ K5.x.1.1.1 (fun q hq W BW => scB_c wr.heap.size z q W (blk_below (heap_alloc_new wr _) BW)))
      rw [ha.out] at hH
      clear hany hz K ha
      obtain ⟨zw, zh, zl⟩ := z
      dsimp only at *
      go_wp2_with fail
      refine hH.out.mono ?_; rintro e w10 ⟨rfl, B10⟩
      have K6 := K5.below B10
      clear K5 hH B10
      go_wp2
      go_roundw
      case rel => exact ⟨k + 1, by omega, by go_num, K6⟩
      case measure => simp [intOf]; omega
    · obtain rfl : k = n8 := by omega
      clear hany
      obtain ⟨z0', z1, z2, z3⟩ := K.x.1.1.2.at_
      dsimp only [Pl.val] at *
      go_wp2_with fail
      refine (hEm.out _ K.x.2).mono ?_; rintro e w11 ⟨A11, n11, c11, rfl, r11, hn11, _, B11⟩
      have hl11 := r11.len
      replace K := K.below B11
      clear B11 hEm r11 z0' z1 z2 z3
      obtain ⟨z0', z1, z2, z3⟩ := K.x.1.1.2.at_
      dsimp only [Pl.val] at *
      go_wp2_with fail
      refine (hLa.out _ K.x.2).mono ?_; rintro e w12 ⟨A12, n12, c12, b12, L, rfl, r12, q12, hn12, B12⟩
      have K2 := (K.below B12).add (Y := fun v => RSp v A12 n12 L) r12 (fun _ _ h B => h.below B)
      have hEm3 := Lib.hid (fun W h => hEm2.out A12 n12 c12 L W h)
      have hq12 := hLq.out L b12 q12
      clear B12 hLa r12 z0' z1 z2 z3 hEm2 q12 K
      obtain ⟨z0', z1, z2, z3⟩ := K2.x.1.1.1.2.at_
      dsimp only [Pl.val] at *
      rcases hq12 with ⟨h1, rfl, rfl⟩ | ⟨rfl, h1, h2⟩
      · obtain rfl : n11 = 0 := by rw [← hl11, h1]; rfl
        rw [(SOk.iff _ _).2 hyo.out] at hEm3
        go_wp2_with fail
        refine (hEm3.out _ K2.x.2).mono ?_; rintro e w13 ⟨A13, n13, c13, rfl, r13, hn13, _, B13⟩
        replace K2 := K2.below B13
        clear B13 hEm3 r13 z0' z1 z2 z3
        go_wp2_with fail
        refine (hEq.out A8 A12 k c8 n12 c12 _ _ K2.x.1.2 K2.x.2).mono ?_; rintro e w14 ⟨rfl, B14⟩
        replace K2 := K2.below B14
        clear B14
        go_wp2_with fail
        refine (ready_c _).mono ?_; rintro e wM ⟨rfl, BM⟩
        have hB := (K2.below BM).bel
        go_wp2
        go_ret
        exact ⟨rfl, hB⟩
      · rw [h1, if_pos rfl] at hEm3
        go_wp2_with fail
        refine (hEm3.out _ K2.x.2).mono ?_; rintro e w13 ⟨A13, n13, c13, rfl, r13, hn13, _, B13⟩
        have hl13 := r13.len
        replace K2 := K2.below B13
        clear B13 hEm3 r13 z0' z1 z2 z3
        have e3 : n13 + 1 = n11 := by rw [← hl13, ← hl11]; exact h2
        have e4 : (0 : Int) < (n11 : Int) := by omega
        have e7 : 0 < n11 := by omega
        have e5 : IntKind.i64.wrap ((n11 : Int) - 1) = (n13 : Int) := by rw [IntWalk.i64_in _ (by omega)]; omega
        have e6 : ((n13 : Int) == (n13 : Int)) = true := by simp
        clear hl11 hl13 h2
        go_wp2_with fail
        refine (ready_c _).mono ?_; rintro e wM ⟨rfl, BM⟩
        have hB := (K2.below BM).bel
        go_wp2
        go_ret
        exact ⟨rfl, hB⟩
end Go.Proofs.YtffhobmkbabllaaGreatDoor
