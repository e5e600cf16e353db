import Derived.Test.YtffhobmkbabllaaGreatDoorSymA
import Derived.Test.YtffhobmkbabllaaGreatDoorSymB
import Derived.Test.YtffhobmkbabllaaGreatDoorDrawP
import Derived.Test.YtffhobmkbabllaaGreatDoorSeedC
/- slices.SortStableFunc of at most 39 seeds by both comparisons, as a function. Printed by wip/mksyms.py. -/
namespace Go.Proofs.YtffhobmkbabllaaGreatDoor
open Go.RowKit Go.Shelf Go.Lib Go.Sort
set_option linter.unusedVariables false

theorem insAB_perm (l : List Sd) {a b : Nat} (ha : a ≤ b) (hb : b ≤ l.length) : (insAB (ltOf sdCf) a b l).Perm l := by
  unfold insAB
  have hP := (insertionSort_holds (lt := ltOf sdCf) sdSWO l.toArray a b ha (by simpa using hb)).1
  have hQ := permIn_mono l.toArray _ a b 0 l.toArray.size (Nat.zero_le _) (by simpa using hb) (Nat.le_refl _) hP
  generalize Sort.insertionSort (ltOf sdCf) l.toArray a b = R at *
  obtain ⟨p1, _, p3⟩ := hQ
  rw [← p1, Array.extract_size] at p3
  rw [p1, Array.extract_size] at p3
  exact p3
theorem insAB_map {p : Sd → Prop} [Inhabited { x : Sd // p x }] (ls : List { x : Sd // p x }) {a b : Nat} (hb : b ≤ ls.length) : insAB (ltOf sdCf) a b (ls.map Subtype.val) = (insAB (ltOf fun x y : { x : Sd // p x } => sdCf x.1 y.1) a b ls).map Subtype.val := by
  unfold insAB insertionSort
  have e : (ls.map Subtype.val).toArray = ls.toArray.map Subtype.val := by simp
  rw [e, insOuter_map (ltOf fun x y : { x : Sd // p x } => sdCf x.1 y.1) (ltOf sdCf) Subtype.val (fun _ _ => rfl) a b _ (a + 1) ls.toArray (Nat.le_refl _) (by simpa using hb)]
  simp
/-- the stable order of at most 39 seeds -/
def ordS (l : List Sd) : List Sd := stbF (ltOf sdCf) l
theorem ordS_perm {l : List Sd} (h : l.length < 40) : (ordS l).Perm l := by
  unfold ordS stbF
  split
  · exact ord_perm l
  · have h1 := insAB_perm l (a := 0) (b := 20) (by omega) (by omega)
    have h2 := insAB_perm (insAB (ltOf sdCf) 0 20 l) (a := 20) (b := l.length) (by omega) (by rw [h1.length_eq]; exact Nat.le_refl _)
    exact (symF_perm _ _ _ _ _ _ (by omega) (by omega) (by rw [h2.length_eq, h1.length_eq]; exact Nat.le_refl _)).trans (h2.trans h1)
set_option maxRecDepth 100000 in
theorem insWA_c (base b n c a m : Nat) (L : List Sd) (w W : World) (K : SyW w base b n c L W) (h0 : 0 < n) (ha : a ≤ m) (hm : m ≤ n) (hn : n ≤ 1000) :
    Calls Tryz.prog 272 #[.slice (some ⟨b, 0, none⟩) n c, .int .i64 a, .int .i64 m, .func (.func 195) #[] #[]] W fun e w' => e = .returned (.tuple #[]) ∧ SyW w base b n c (insAB (ltOf sdCf) a m L) w' := by
  have hown := K.o
  have hlen := own_len sdE_len (by decide) hown
  obtain ⟨ls, hls⟩ := sub_list (p := fun x : Sd => 0 ≤ x.time ∧ x.time ≤ 360000) L K.bd
  have hl0 : ls.length = n := by have : (ls.map Subtype.val).length = n := by rw [hls, hlen]
                                 rw [List.length_map] at this; omega
  have hinh : Inhabited { x : Sd // 0 ≤ x.time ∧ x.time ≤ 360000 } := ⟨ls[0]'(by omega)⟩
  have hown' : W.ownsRow base 40 2 (.slice (some ⟨b, 0, none⟩) n c) n (ls.flatMap fun x => sdE x.1) := by rw [sdS_flat, hls]; exact hown
  have eg : ∀ args w, (callFunc 195 args).run Tryz.prog w = .ok (.enter 195 args) w := enters_of Tryz.func195 (by kernel_rfl) rfl
  have hs : ∀ x : { x : Sd // 0 ≤ x.time ∧ x.time ≤ 360000 }, (sdE x.1).length = 2 := fun _ => rfl
  have hlt := (hown.lt b rfl).2
  have hH := holdsK_own (fun x : { x : Sd // 0 ≤ x.time ∧ x.time ≤ 360000 } => sdE x.1) 2 hs (by omega) hown'
  have hS := sdIns_c (fun x : { x : Sd // 0 ≤ x.time ∧ x.time ≤ 360000 } => sdE x.1) hs (fun x v hv => by simp [sdE] at hv; rcases hv with rfl | rfl <;> rfl) (fun x y => sdCf x.1 y.1) 195 #[] eg b c a m ls.toArray W (fun q os dk hdk x y => (sdCmpA_c x.1 y.1 _ x.2 y.2).mono fun _ _ ⟨he, hB, hD⟩ => ⟨he, grow_of hB hD⟩) hH hlt ha (by simp; omega) (by simp; omega)
  have e3 : Sort.insertionSort (ltOf fun x y : { x : Sd // 0 ≤ x.time ∧ x.time ≤ 360000 } => sdCf x.1 y.1) ls.toArray a m = (insAB (ltOf fun x y : { x : Sd // 0 ≤ x.time ∧ x.time ≤ 360000 } => sdCf x.1 y.1) a m ls).toArray := by unfold insAB; simp
  have e4 := insAB_map ls (a := a) (b := m) (by omega)
  rw [hls] at e4
  rw [e3] at hS
  have hR := own_sortedK (fun x : { x : Sd // 0 ≤ x.time ∧ x.time ≤ 360000 } => sdE x.1) 2 hs (by omega) hown' (l' := insAB (ltOf fun x y : { x : Sd // 0 ≤ x.time ∧ x.time ≤ 360000 } => sdCf x.1 y.1) a m ls) (by rw [insAB_len, hl0])
  simp only [List.size_toArray, hl0] at hS
  refine hS.mono ?_
  rintro e w' ⟨rfl, q, os, rfl⟩
  obtain ⟨r1, r2⟩ := hR q os
  rw [sdS_flat, ← e4] at r1
  have hp := insAB_perm L ha (by rw [hlen]; exact hm)
  exact ⟨rfl, r1, grown_trans K.g r2, fun x hx => K.bd x (hp.mem_iff.1 hx)⟩
set_option maxHeartbeats 3200000 in
set_option maxRecDepth 100000 in
theorem stableWA_c (base b n c : Nat) (L : List Sd) (w : World) (K : SyW w base b n c L w) (h0 : 20 < n) (h1 : n < 40) :
    Calls Tryz.prog 241 #[.slice (some ⟨b, 0, none⟩) n c, .int .i64 n, .func (.func 195) #[] #[]] w fun e w' => e = .returned (.tuple #[]) ∧ SyW w base b n c (symF (ltOf sdCf) n 0 20 n (insAB (ltOf sdCf) 20 n (insAB (ltOf sdCf) 0 20 L))) w' := by
  have hI1 := Lib.hid (fun W K => insWA_c base b n c 0 20 L w W K (by omega) (by omega) (by omega) (by omega))
  have hI2 := Lib.hid (fun W K => insWA_c base b n c 20 n (insAB (ltOf sdCf) 0 20 L) w W K (by omega) (by omega) (by omega) (by omega))
  have hS := Lib.hid (fun W K => symMergeA_c base b n c (by omega) w n 0 20 n (insAB (ltOf sdCf) 20 n (insAB (ltOf sdCf) 0 20 L)) W K (by omega) (by omega) (by omega) (by omega))
  generalize symF (ltOf sdCf) n 0 20 n (insAB (ltOf sdCf) 20 n (insAB (ltOf sdCf) 0 20 L)) = R at *
  generalize insAB (ltOf sdCf) 20 n (insAB (ltOf sdCf) 0 20 L) = L2 at *
  generalize insAB (ltOf sdCf) 0 20 L = L1 at *
  have d1 : (20 : Int) ≤ (n : Int) := by omega
  have d2 : ¬ (40 : Int) ≤ (n : Int) := by omega
  have d3 : (20 : Int) < (n : Int) := by omega
  have d4 : ¬ (40 : Int) < (n : Int) := by omega
  have d5 : 20 ≤ n := by omega
  have d6 : ¬ 40 ≤ n := by omega
  have d7 : ¬ 40 < n := by omega
  go_enter Tryz.func241, Tryz.ntmps241
  go_wp2
  refine wp_loop_rounds 2 ?_
  rw [rounds_succ]
  go_wp2_with fail
  refine (hI1.out _ K).mono ?_; rintro e w1 ⟨rfl, K1⟩
  go_wp2
  rw [rounds_succ]
  go_wp2_with fail
  refine (hI2.out _ K1).mono ?_; rintro e w2 ⟨rfl, K2⟩
  go_wp2
  refine wp_loop_rounds 2 ?_
  rw [rounds_succ]
  go_wp2
  refine wp_loop_rounds 1 ?_
  rw [rounds_succ]
  go_wp2_with fail
  refine (hS.out _ K2).mono ?_; rintro e w3 ⟨rfl, K3⟩
  go_wp2
  rw [rounds_succ]
  go_wp2
  go_end0
  exact ⟨rfl, K3⟩
/-- seeds in a row of the call's own, at most 39 -/
theorem sdSortSA_c (l : List Sd) (w : World) (base n : Nat) (u : Value) (hown : w.ownsRow base 40 2 u n (l.flatMap sdE)) (hn : n < 40) (hw : ∀ x ∈ l, 0 ≤ x.time ∧ x.time ≤ 360000) :
    Calls Tryz.prog 193 #[u, .func (.func 195) #[] #[]] w fun e w' => e = .returned (.tuple #[]) ∧ w'.ownsRow base 40 2 u n ((ordS l).flatMap sdE) ∧ w.grownBy w' u.ownBlock := by
  obtain ⟨A, c, rfl⟩ := own_shape hown
  have hlen := own_len sdE_len (by decide) hown
  by_cases h20 : n ≤ 20
  · have e : ordS l = ordL l := by unfold ordS stbF; rw [if_pos (by omega)]; rfl
    rw [e]
    rcases Nat.eq_zero_or_pos n with h0 | hp
    · subst h0
      have hl : l = [] := List.eq_nil_of_length_eq_zero hlen
      subst hl
      refine (sdSort0_c A c _ w).mono ?_
      rintro e w' ⟨rfl, rfl⟩
      exact ⟨rfl, by unfold ordL; rw [insL_nil]; exact hown, grown_refl _ _⟩
    obtain ⟨gb, rfl, hgb⟩ := own_someN hown hp
    obtain ⟨ls, hls⟩ := sub_list (p := fun x : Sd => 0 ≤ x.time ∧ x.time ≤ 360000) l hw
    have hl0 : 0 < ls.length := by have : (ls.map Subtype.val).length = n := by rw [hls, hlen]
                                   rw [List.length_map] at this; omega
    have hinh : Inhabited { x : Sd // 0 ≤ x.time ∧ x.time ≤ 360000 } := ⟨ls[0]⟩
    have e1 := insL_map (ltOf fun x y : { x : Sd // 0 ≤ x.time ∧ x.time ≤ 360000 } => sdCf x.1 y.1) (ltOf sdCf) Subtype.val (fun _ _ => rfl) ls
    rw [hls] at e1
    have hown' : w.ownsRow base 40 2 (.slice (some ⟨gb, 0, none⟩) n c) n (ls.flatMap fun x => sdE x.1) := by rw [sdS_flat, hls]; exact hown
    have eg : ∀ args w, (callFunc 195 args).run Tryz.prog w = .ok (.enter 195 args) w := enters_of Tryz.func195 (by kernel_rfl) rfl
    refine (sdSort20_c (fun x : { x : Sd // 0 ≤ x.time ∧ x.time ≤ 360000 } => sdE x.1) (fun _ => rfl) (fun x v hv => by simp [sdE] at hv; rcases hv with rfl | rfl <;> rfl) (fun x y => sdCf x.1 y.1) _ _ eg base gb n c ls w (fun m os dk hdk x y => ?_) hown' h20).mono ?_
    · exact (sdCmpA_c x.1 y.1 _ x.2 y.2).mono fun _ _ ⟨he, hB, hD⟩ => ⟨he, grow_of hB hD⟩
    · rintro e w' ⟨rfl, ho, hg⟩
      rw [sdS_flat, ← e1] at ho
      exact ⟨rfl, ho, hg⟩
  · have e : ordS l = symF (ltOf sdCf) n 0 20 n (insAB (ltOf sdCf) 20 n (insAB (ltOf sdCf) 0 20 l)) := by unfold ordS stbF; rw [if_neg (by omega), hlen]
    rw [e]
    obtain ⟨gb, rfl, hgb⟩ := own_someN hown (by omega)
    have hS := Lib.hid (stableWA_c base gb n c l w ⟨hown, grown_refl _ _, hw⟩ (by omega) hn)
    clear e hown
    generalize symF (ltOf sdCf) n 0 20 n (insAB (ltOf sdCf) 20 n (insAB (ltOf sdCf) 0 20 l)) = R at *
    go_enter Tryz.func193, Tryz.ntmps193
    go_wp2_with fail
    refine hS.out.mono ?_; rintro e w' ⟨rfl, K⟩
    go_wp2
    go_end0
    exact ⟨rfl, K.o, K.g⟩
set_option maxRecDepth 100000 in
theorem insWB_c (base b n c a m : Nat) (L : List Sd) (w W : World) (K : SyW w base b n c L W) (h0 : 0 < n) (ha : a ≤ m) (hm : m ≤ n) (hn : n ≤ 1000) :
    Calls Tryz.prog 272 #[.slice (some ⟨b, 0, none⟩) n c, .int .i64 a, .int .i64 m, .func (.func 194) #[] #[]] W fun e w' => e = .returned (.tuple #[]) ∧ SyW w base b n c (insAB (ltOf sdCf) a m L) w' := by
  have hown := K.o
  have hlen := own_len sdE_len (by decide) hown
  obtain ⟨ls, hls⟩ := sub_list (p := fun x : Sd => 0 ≤ x.time ∧ x.time ≤ 360000) L K.bd
  have hl0 : ls.length = n := by have : (ls.map Subtype.val).length = n := by rw [hls, hlen]
                                 rw [List.length_map] at this; omega
  have hinh : Inhabited { x : Sd // 0 ≤ x.time ∧ x.time ≤ 360000 } := ⟨ls[0]'(by omega)⟩
  have hown' : W.ownsRow base 40 2 (.slice (some ⟨b, 0, none⟩) n c) n (ls.flatMap fun x => sdE x.1) := by rw [sdS_flat, hls]; exact hown
  have eg : ∀ args w, (callFunc 194 args).run Tryz.prog w = .ok (.enter 194 args) w := enters_of Tryz.func194 (by kernel_rfl) rfl
  have hs : ∀ x : { x : Sd // 0 ≤ x.time ∧ x.time ≤ 360000 }, (sdE x.1).length = 2 := fun _ => rfl
  have hlt := (hown.lt b rfl).2
  have hH := holdsK_own (fun x : { x : Sd // 0 ≤ x.time ∧ x.time ≤ 360000 } => sdE x.1) 2 hs (by omega) hown'
  have hS := sdIns_c (fun x : { x : Sd // 0 ≤ x.time ∧ x.time ≤ 360000 } => sdE x.1) hs (fun x v hv => by simp [sdE] at hv; rcases hv with rfl | rfl <;> rfl) (fun x y => sdCf x.1 y.1) 194 #[] eg b c a m ls.toArray W (fun q os dk hdk x y => (sdCmpB_c x.1 y.1 _ x.2 y.2).mono fun _ _ ⟨he, hB, hD⟩ => ⟨he, grow_of hB hD⟩) hH hlt ha (by simp; omega) (by simp; omega)
  have e3 : Sort.insertionSort (ltOf fun x y : { x : Sd // 0 ≤ x.time ∧ x.time ≤ 360000 } => sdCf x.1 y.1) ls.toArray a m = (insAB (ltOf fun x y : { x : Sd // 0 ≤ x.time ∧ x.time ≤ 360000 } => sdCf x.1 y.1) a m ls).toArray := by unfold insAB; simp
  have e4 := insAB_map ls (a := a) (b := m) (by omega)
  rw [hls] at e4
  rw [e3] at hS
  have hR := own_sortedK (fun x : { x : Sd // 0 ≤ x.time ∧ x.time ≤ 360000 } => sdE x.1) 2 hs (by omega) hown' (l' := insAB (ltOf fun x y : { x : Sd // 0 ≤ x.time ∧ x.time ≤ 360000 } => sdCf x.1 y.1) a m ls) (by rw [insAB_len, hl0])
  simp only [List.size_toArray, hl0] at hS
  refine hS.mono ?_
  rintro e w' ⟨rfl, q, os, rfl⟩
  obtain ⟨r1, r2⟩ := hR q os
  rw [sdS_flat, ← e4] at r1
  have hp := insAB_perm L ha (by rw [hlen]; exact hm)
  exact ⟨rfl, r1, grown_trans K.g r2, fun x hx => K.bd x (hp.mem_iff.1 hx)⟩
set_option maxHeartbeats 3200000 in
set_option maxRecDepth 100000 in
theorem stableWB_c (base b n c : Nat) (L : List Sd) (w : World) (K : SyW w base b n c L w) (h0 : 20 < n) (h1 : n < 40) :
    Calls Tryz.prog 241 #[.slice (some ⟨b, 0, none⟩) n c, .int .i64 n, .func (.func 194) #[] #[]] w fun e w' => e = .returned (.tuple #[]) ∧ SyW w base b n c (symF (ltOf sdCf) n 0 20 n (insAB (ltOf sdCf) 20 n (insAB (ltOf sdCf) 0 20 L))) w' := by
  have hI1 := Lib.hid (fun W K => insWB_c base b n c 0 20 L w W K (by omega) (by omega) (by omega) (by omega))
  have hI2 := Lib.hid (fun W K => insWB_c base b n c 20 n (insAB (ltOf sdCf) 0 20 L) w W K (by omega) (by omega) (by omega) (by omega))
  have hS := Lib.hid (fun W K => symMergeB_c base b n c (by omega) w n 0 20 n (insAB (ltOf sdCf) 20 n (insAB (ltOf sdCf) 0 20 L)) W K (by omega) (by omega) (by omega) (by omega))
  generalize symF (ltOf sdCf) n 0 20 n (insAB (ltOf sdCf) 20 n (insAB (ltOf sdCf) 0 20 L)) = R at *
  generalize insAB (ltOf sdCf) 20 n (insAB (ltOf sdCf) 0 20 L) = L2 at *
  generalize insAB (ltOf sdCf) 0 20 L = L1 at *
  have d1 : (20 : Int) ≤ (n : Int) := by omega
  have d2 : ¬ (40 : Int) ≤ (n : Int) := by omega
  have d3 : (20 : Int) < (n : Int) := by omega
  have d4 : ¬ (40 : Int) < (n : Int) := by omega
  have d5 : 20 ≤ n := by omega
  have d6 : ¬ 40 ≤ n := by omega
  have d7 : ¬ 40 < n := by omega
  go_enter Tryz.func241, Tryz.ntmps241
  go_wp2
  refine wp_loop_rounds 2 ?_
  rw [rounds_succ]
  go_wp2_with fail
  refine (hI1.out _ K).mono ?_; rintro e w1 ⟨rfl, K1⟩
  go_wp2
  rw [rounds_succ]
  go_wp2_with fail
  refine (hI2.out _ K1).mono ?_; rintro e w2 ⟨rfl, K2⟩
  go_wp2
  refine wp_loop_rounds 2 ?_
  rw [rounds_succ]
  go_wp2
  refine wp_loop_rounds 1 ?_
  rw [rounds_succ]
  go_wp2_with fail
  refine (hS.out _ K2).mono ?_; rintro e w3 ⟨rfl, K3⟩
  go_wp2
  rw [rounds_succ]
  go_wp2
  go_end0
  exact ⟨rfl, K3⟩
/-- seeds in a row of the call's own, at most 39 -/
theorem sdSortSB_c (l : List Sd) (w : World) (base n : Nat) (u : Value) (hown : w.ownsRow base 40 2 u n (l.flatMap sdE)) (hn : n < 40) (hw : ∀ x ∈ l, 0 ≤ x.time ∧ x.time ≤ 360000) :
    Calls Tryz.prog 193 #[u, .func (.func 194) #[] #[]] w fun e w' => e = .returned (.tuple #[]) ∧ w'.ownsRow base 40 2 u n ((ordS l).flatMap sdE) ∧ w.grownBy w' u.ownBlock := by
  obtain ⟨A, c, rfl⟩ := own_shape hown
  have hlen := own_len sdE_len (by decide) hown
  by_cases h20 : n ≤ 20
  · have e : ordS l = ordL l := by unfold ordS stbF; rw [if_pos (by omega)]; rfl
    rw [e]
    rcases Nat.eq_zero_or_pos n with h0 | hp
    · subst h0
      have hl : l = [] := List.eq_nil_of_length_eq_zero hlen
      subst hl
      refine (sdSort0_c A c _ w).mono ?_
      rintro e w' ⟨rfl, rfl⟩
      exact ⟨rfl, by unfold ordL; rw [insL_nil]; exact hown, grown_refl _ _⟩
    obtain ⟨gb, rfl, hgb⟩ := own_someN hown hp
    obtain ⟨ls, hls⟩ := sub_list (p := fun x : Sd => 0 ≤ x.time ∧ x.time ≤ 360000) l hw
    have hl0 : 0 < ls.length := by have : (ls.map Subtype.val).length = n := by rw [hls, hlen]
                                   rw [List.length_map] at this; omega
    have hinh : Inhabited { x : Sd // 0 ≤ x.time ∧ x.time ≤ 360000 } := ⟨ls[0]⟩
    have e1 := insL_map (ltOf fun x y : { x : Sd // 0 ≤ x.time ∧ x.time ≤ 360000 } => sdCf x.1 y.1) (ltOf sdCf) Subtype.val (fun _ _ => rfl) ls
    rw [hls] at e1
    have hown' : w.ownsRow base 40 2 (.slice (some ⟨gb, 0, none⟩) n c) n (ls.flatMap fun x => sdE x.1) := by rw [sdS_flat, hls]; exact hown
    have eg : ∀ args w, (callFunc 194 args).run Tryz.prog w = .ok (.enter 194 args) w := enters_of Tryz.func194 (by kernel_rfl) rfl
    refine (sdSort20_c (fun x : { x : Sd // 0 ≤ x.time ∧ x.time ≤ 360000 } => sdE x.1) (fun _ => rfl) (fun x v hv => by simp [sdE] at hv; rcases hv with rfl | rfl <;> rfl) (fun x y => sdCf x.1 y.1) _ _ eg base gb n c ls w (fun m os dk hdk x y => ?_) hown' h20).mono ?_
    · exact (sdCmpB_c x.1 y.1 _ x.2 y.2).mono fun _ _ ⟨he, hB, hD⟩ => ⟨he, grow_of hB hD⟩
    · rintro e w' ⟨rfl, ho, hg⟩
      rw [sdS_flat, ← e1] at ho
      exact ⟨rfl, ho, hg⟩
  · have e : ordS l = symF (ltOf sdCf) n 0 20 n (insAB (ltOf sdCf) 20 n (insAB (ltOf sdCf) 0 20 l)) := by unfold ordS stbF; rw [if_neg (by omega), hlen]
    rw [e]
    obtain ⟨gb, rfl, hgb⟩ := own_someN hown (by omega)
    have hS := Lib.hid (stableWB_c base gb n c l w ⟨hown, grown_refl _ _, hw⟩ (by omega) hn)
    clear e hown
    generalize symF (ltOf sdCf) n 0 20 n (insAB (ltOf sdCf) 20 n (insAB (ltOf sdCf) 0 20 l)) = R at *
    go_enter Tryz.func193, Tryz.ntmps193
    go_wp2_with fail
    refine hS.out.mono ?_; rintro e w' ⟨rfl, K⟩
    go_wp2
    go_end0
    exact ⟨rfl, K.o, K.g⟩
end Go.Proofs.YtffhobmkbabllaaGreatDoor

/- heat.ordered, heat.Order, tumbref1.OrderOf, heat.Draw of at most 39 seeds. Printed by wip/mkords.py. -/
namespace Go.Proofs.YtffhobmkbabllaaGreatDoor
open Go.RowKit Go.Shelf Go.Lib Go.Sort
set_option linter.unusedVariables false

theorem ordS_len {l : List Sd} (h : l.length < 40) : (ordS l).length = l.length := (ordS_perm h).length_eq
def orderW (l : List Sd) : List ByteArray := if seedErr l = 0 then (ordS l).map Sd.who else []
theorem orderedS_c (A : Option Addr) (n c : Nat) (l : List Sd) (w : World) (h : RSd w A n l) (hn : n < 40) (hw : ∀ x ∈ l, 0 ≤ x.time ∧ x.time ≤ 360000) :
    Calls Tryz.prog 135 #[.slice A n c] w fun e w' => ∃ A' c', e = .returned (.slice A' n c') ∧ w'.ownsRow w.heap.size 40 2 (.slice A' n c') n ((ordS l).flatMap sdE) ∧ Below w.heap.size w w' := by
  have hC := Lib.hid (cloneSd_c A n c l w h (by omega))
  go_enter Tryz.func135, Tryz.ntmps135
  go_wp2_with fail
  refine hC.out.mono ?_; rintro e w1 ⟨A', c', rfl, ho, B1⟩
  have hS := Lib.hid (sdSortSA_c l w1 _ n _ ho hn hw)
  have hB := Lib.hid (fun w' (hg : w1.grownBy w' (Value.slice A' n c').ownBlock) => below_own B1 ho hg B1.size (Nat.le_refl _))
  clear hC ho
  go_wp2_with fail
  refine hS.out.mono ?_; rintro e w2 ⟨rfl, ho2, hg2⟩
  have hB2 := hB.out _ hg2
  clear hS hg2
  go_wp2
  go_ret
  exact ⟨A', c', rfl, ho2, hB2⟩
set_option maxHeartbeats 1600000 in
set_option maxRecDepth 100000 in
theorem order48_c (A : Option Addr) (n c : Nat) (l : List Sd) (w : World) (h : RSd w A n l) (hn : n < 40) : Calls Tryz.prog 62 #[.slice A n c] w (RetNm w (seedErr l) (orderW l)) := by
  have hC := Lib.hid (checkSeeds_c A n c l w h)
  by_cases h0 : seedErr l = 0
  rotate_left
  · have hd : (seedErr l != 0) = true := by simpa using h0
    have hV : orderW l = [] := if_neg h0
    rw [hV]
    clear hV h0
    generalize seedErr l = E at *
    go_enter Tryz.func62, Tryz.ntmps62
    go_wp2_with fail
    refine hC.out.mono ?_; rintro e w1 ⟨rfl, B1⟩
    go_wp2
    go_ret2
    exact ⟨none, 0, 0, rfl, R1.nil_ _ _ _ _, B1⟩
  obtain ⟨_, hso⟩ := seedErr_ok h0
  have hst : ∀ x ∈ l, 0 ≤ x.time ∧ x.time ≤ 360000 := fun x hx => (hso x hx).2
  have hO := Lib.hid (fun W h => orderedS_c A n c l W h hn hst)
  have hV : orderW l = (ordS l).map Sd.who := if_pos h0
  have hol : (ordS l).length = n := by rw [ordS_len (by rw [h.len]; exact hn)]; exact h.len
  rw [hV, h0]
  rw [h0] at hC
  clear hV h0 hso hst
  generalize ordS l = O at *
  have hOl := Lib.hid hol
  clear hol
  go_enter Tryz.func62, Tryz.ntmps62
  go_wp2_with fail
  refine hC.out.mono ?_; rintro e w0 ⟨rfl, B0⟩
  have h1 := h.below B0
  clear hC h
  go_wp2_with fail
  refine (hO.out _ h1).mono ?_; rintro e w1 ⟨A1, c1, rfl, ho, B1⟩
  have hR1 : RSd w1 A1 n O := RN.of_own sdE_len ho hOl.out (by omega)
  have hR := Lib.hid (fun W h => hR1.below (w' := W) h)
  have hB1 := below_next B0 B1
  clear ho hR1 B1 B0 hO h1
  go_wp2_with fail
  go_loopw [5, 16] (fun u i wr => ∃ k : Nat, k ≤ n ∧ i = .int .i64 k ∧ NL w1 u ((O.take k).map Sd.who) wr) (fun _ i _ => n - (intOf i).toNat)
  case atStart => exact ⟨0, Nat.zero_le _, rfl, NL.start w1⟩
  case round =>
    obtain ⟨k, hk, rfl, K⟩ := hrel
    obtain ⟨Au, cu, rfl⟩ := own_shape K.own
    have hlk := Lib.hid (show ((O.take k).map Sd.who).length = k by rw [List.length_map, List.length_take, hOl.out]; omega)
    rw [hlk.out] at K ⊢
    by_cases hlt : k < n
    · obtain ⟨b, off, x, rfl, hbl, hx, c0, c1⟩ := RSd_at2 (hR.out _ K.bel) hlt
      have htk := Lib.hid (show (O.take (k + 1)).map Sd.who = (O.take k).map Sd.who ++ [x.who] by rw [List.take_add_one, hx, List.map_append]; rfl)
      obtain ⟨who, time⟩ := x
      dsimp only at *
      have K5 := K.below (below_new wr (.cells #[.string who, .int .i64 time] 40))
      have z0 := (blk_facts (heap_alloc_new wr (.cells #[.string who, .int .i64 time] 40))).1 0
      have hown := K5.own
      have hsz := K5.bel.size
      rw [hlk.out] at hown
      have hA := Lib.hid (fun v' w' ho hg => K5.app (v' := v') (x := who) (w' := w') ho hg)
      rw [hlk.out] at hA
      clear hx K K5
      go_wp2_with (at_builtin; refine wpList_app rfl (.tmp 20) (.tmp 23) 76 rfl Tryz.underlying76 info_strS rfl (by omega) (by omega) hown rfl rfl (by first | rfl | (simp; done)) (by rfl) (by simp [Value.oneCell']) (by omega) hsz ?_; intro v4 w4 hown4 hg4)
      have K4 := hA.out v4 w4 hown4 hg4
      clear hown4 hg4 hown hA z0
      go_roundw
      case rel => exact ⟨k + 1, by omega, by go_num, by rw [htk.out]; exact K4⟩
      case measure => simp [intOf]; omega
    · obtain rfl : k = n := by omega
      have hrs : RS 9 wr Au k (O.map Sd.who) := by
        have h := K.own
        rw [hlk.out, List.take_of_length_le (by rw [hOl.out]; exact Nat.le_refl _)] at h
        exact RS.of_own h (by omega)
      have hbel := below_next hB1 K.bel
      clear K hR
      go_wp2
      go_ret2
      exact ⟨Au, k, cu, rfl, hrs, hbel⟩
set_option maxHeartbeats 1600000 in
set_option maxRecDepth 100000 in
theorem orderRefS_c (A : Option Addr) (n c : Nat) (l : List Sd) (w : World) (h : RSd w A n l) (hn : n < 40) (h0 : seedErr l = 0) : Calls Tryz.prog 132 #[.slice A n c] w fun e w' => ∃ A' n' c', e = .returned (.slice A' n' c') ∧ RS 9 w' A' n' (orderW l) ∧ n' ≤ c' ∧ Below w.heap.size w w' := by
  obtain ⟨_, hso⟩ := seedErr_ok h0
  have hst : ∀ x ∈ l, 0 ≤ x.time ∧ x.time ≤ 360000 := fun x hx => (hso x hx).2
  have hCl := Lib.hid (cloneSd_c A n c l w h (by omega))
  have hV : orderW l = (ordS l).map Sd.who := if_pos h0
  have hol : (ordS l).length = n := by rw [ordS_len (by rw [h.len]; exact hn)]; exact h.len
  rw [hV]
  clear hV h0 hso
  generalize hOo : ordS l = O at *
  have hOl := Lib.hid hol
  have hOo' := Lib.hid hOo
  clear hol hOo
  go_enter Tryz.func132, Tryz.ntmps132
  go_wp2_with fail
  refine hCl.out.mono ?_; rintro e w0 ⟨A1, c1, rfl, ho0, B0⟩
  have hS := Lib.hid (sdSortSB_c l w0 _ n _ ho0 hn hst)
  rw [hOo'.out] at hS
  have hB := Lib.hid (fun w' (hg : w0.grownBy w' (Value.slice A1 n c1).ownBlock) => below_own B0 ho0 hg B0.size (Nat.le_refl _))
  clear hCl ho0 h
  go_wp2_with fail
  refine hS.out.mono ?_; rintro e w1 ⟨rfl, ho, hg2⟩
  have hB1 := hB.out _ hg2
  have hR1 : RSd w1 A1 n O := RN.of_own sdE_len ho hOl.out (by omega)
  have hR := Lib.hid (fun W h => hR1.below (w' := W) h)
  clear hS hg2 ho hR1 B0 hB
  go_wp2_with fail
  go_loopw [3, 12] (fun u i wr => ∃ k : Nat, k ≤ n ∧ i = .int .i64 k ∧ NL w1 u ((O.take k).map Sd.who) wr) (fun _ i _ => n - (intOf i).toNat)
  case atStart => exact ⟨0, Nat.zero_le _, rfl, NL.start w1⟩
  case round =>
    obtain ⟨k, hk, rfl, K⟩ := hrel
    obtain ⟨Au, cu, rfl⟩ := own_shape K.own
    have hlk := Lib.hid (show ((O.take k).map Sd.who).length = k by rw [List.length_map, List.length_take, hOl.out]; omega)
    rw [hlk.out] at K ⊢
    by_cases hlt : k < n
    · obtain ⟨b, off, x, rfl, hbl, hx, c0, c1⟩ := RSd_at2 (hR.out _ K.bel) hlt
      have htk := Lib.hid (show (O.take (k + 1)).map Sd.who = (O.take k).map Sd.who ++ [x.who] by rw [List.take_add_one, hx, List.map_append]; rfl)
      obtain ⟨who, time⟩ := x
      dsimp only at *
      have K5 := K.below (below_new wr (.cells #[.string who, .int .i64 time] 40))
      have z0 := (blk_facts (heap_alloc_new wr (.cells #[.string who, .int .i64 time] 40))).1 0
      have hown := K5.own
      have hsz := K5.bel.size
      rw [hlk.out] at hown
      have hA := Lib.hid (fun v' w' ho hg => K5.app (v' := v') (x := who) (w' := w') ho hg)
      rw [hlk.out] at hA
      clear hx K K5
      go_wp2_with (at_builtin; refine wpList_app rfl (.tmp 16) (.tmp 19) 76 rfl Tryz.underlying76 info_strS rfl (by omega) (by omega) hown rfl rfl (by first | rfl | (simp; done)) (by rfl) (by simp [Value.oneCell']) (by omega) hsz ?_; intro v4 w4 hown4 hg4)
      have K4 := hA.out v4 w4 hown4 hg4
      clear hown4 hg4 hown hA z0
      go_roundw
      case rel => exact ⟨k + 1, by omega, by go_num, by rw [htk.out]; exact K4⟩
      case measure => simp [intOf]; omega
    · obtain rfl : k = n := by omega
      have hrs : RS 9 wr Au k (O.map Sd.who) := by
        have h := K.own
        rw [hlk.out, List.take_of_length_le (by rw [hOl.out]; exact Nat.le_refl _)] at h
        exact RS.of_own h (by omega)
      have hbel := below_next hB1 K.bel
      have hcap : k ≤ cu := by have h := K.own; rw [hlk.out] at h; exact own_capN h
      clear K hR
      go_wp2
      go_ret
      exact ⟨Au, k, cu, rfl, hrs, hcap, hbel⟩
theorem PlOk.bd {p : Pl} (h : PlOk p) : PlBd p := by
  obtain ⟨⟨h1, h2⟩, h3, _, _⟩ := h
  unfold PlBd
  omega
theorem szErr_small {lanes many : Int} (h1 : 1 ≤ lanes) (h0 : 0 ≤ many) (h2 : many ≤ 60) : szErr lanes many = 0 := by
  unfold szErr
  rcases sz_bd h1 h0 with ⟨_, b1, b2⟩ | ⟨_, b0, _⟩
  · refine if_neg fun h9 => ?_
    have h3 : (60 : Int) ≤ (szN lanes many : Int) - 1 := by omega
    have h4 : 1 * (60 : Int) ≤ lanes * ((szN lanes many : Int) - 1) := Int.mul_le_mul h1 h3 (by omega) (by omega)
    omega
  · rw [b0]; rfl
theorem orderW_len {l : List Sd} (h0 : seedErr l = 0) (h : l.length < 40) : (orderW l).length = l.length := by unfold orderW; rw [if_pos h0, List.length_map, ordS_len h]
theorem checkBothH_c (p : Pl) (hp : PlOk p) (A : Option Addr) (n c : Nat) (l : List Sd) (w : World) (h : RSd w A n l) :
    Calls Tryz.prog 125 #[p.val, .slice A n c] w fun e w' => e = .returned (.int .i64 (seedErr l)) ∧ Below w.heap.size w w' := by
  have hB0 := below_new w (.cells p.cells 72)
  have hp0 : PoolB w.heap.size p (w.alloc (.cells p.cells 72)) := heap_alloc_new w _
  have hCP := Lib.hid (fun W => checkPool_c p hp.bd W)
  have h00 : poolErr p = 0 := if_pos hp
  rw [h00] at hCP
  obtain ⟨z0, z1, z2, z3⟩ := hp0.at_
  have hr := h.below hB0
  have hCS := Lib.hid (fun W h => checkSeeds_c A n c l W h)
  generalize seedErr l = E at *
  clear hp h00 hp0
  obtain ⟨lo, hi, le, ci⟩ := p
  dsimp only [Pl.val, Pl.cells] at *
  go_enter Tryz.func125, Tryz.ntmps125
  go_wp2_with fail
  refine (hCP.out _).mono ?_; rintro e w1 ⟨rfl, B1⟩
  have hB1 := below_next hB0 B1
  have hr1 := hr.below B1
  clear hCP z0 z1 z2 z3 hr hB0 B1
  go_wp2_with fail
  refine (hCS.out _ hr1).mono ?_; rintro e w2 ⟨rfl, B2⟩
  have hB2 := below_next hB1 B2
  go_wp2
  go_ret
  exact ⟨rfl, hB2⟩
def RetDT (w : World) (p : Pl) (R : List (List ByteArray)) (e : Ending) (w' : World) : Prop := ∃ A' n' c' D, e = .returned (.tuple #[.slice A' n' c', .int .i64 0]) ∧ RSp w' A' n' D ∧ SpSorted (stOut (laneV p.lo p.hi) 0 R) D ∧ Below w.heap.size w w'
set_option maxHeartbeats 1600000 in
set_option maxRecDepth 100000 in
theorem drawTop_c (p : Pl) (hp : PlOk p) (A : Option Addr) (n c : Nat) (l : List Sd) (w : World) (h : RSd w A n l) (h0 : seedErr l = 0) (hn : n < 40) (R : List (List ByteArray)) (hR : DrawR (szV (p.hi - p.lo + 1) p.le n) p.ci (orderW l) R) :
    Calls Tryz.prog 57 #[p.val, .slice A n c] w (RetDT w p R) := by
  obtain ⟨_, hso⟩ := seedErr_ok h0
  have hst : ∀ x ∈ l, 0 ≤ x.time ∧ x.time ≤ 360000 := fun x hx => (hso x hx).2
  have hz := szErr_small (lanes := p.hi - p.lo + 1) (many := (n : Int)) (by have := hp.1.2; omega) (by omega) (by omega)
  have hD := Lib.hid (fun W (h : RSd W A n l) => draw_c p hp A n c (ordS l) W (fun W' B => (orderedS_c A n c l W' (h.below B) hn hst).mono fun e w' ⟨A', c', h1, h2, h3⟩ => ⟨A', c', h1, RN.of_own sdE_len h2 (by rw [ordS_len (by rw [h.len]; exact hn)]; exact h.len) (by omega), by rcases own_cap h2 rfl with ⟨_, h4, _⟩ | ⟨_, _, h4⟩ <;> omega, h3⟩) (by rw [ordS_len (by rw [h.len]; exact hn)]; exact h.len) (by omega) R (fun _ => by unfold orderW at hR; rw [if_pos h0] at hR; exact hR))
  have hB0 := below_new w (.cells p.cells 72)
  have hp0 : PoolB w.heap.size p (w.alloc (.cells p.cells 72)) := heap_alloc_new w _
  have hCB := Lib.hid (fun W h => checkBothH_c p hp A n c l W h)
  rw [h0] at hCB
  obtain ⟨z0, z1, z2, z3⟩ := hp0.at_
  have hr := h.below hB0
  have hf := Lib.hid (fun e W w' (h : RetDp W p n R e w') (B : Below w.heap.size w W) => show RetDT w p R e w' by
    rcases h with ⟨h9, _⟩ | ⟨_, A', n', c', D, h1, h2, h3, h4⟩
    · exact absurd hz h9
    · exact ⟨A', n', c', D, h1, h2, h3, below_next B h4⟩)
  have hq := Lib.hid (fun A' n' c' E w' (h : RetDT w p R (.returned (.tuple #[.slice A' n' c', .int .i64 E])) w') => h)
  clear hst hso h0 hR h hz hq
  obtain ⟨lo, hi, le, ci⟩ := p
  dsimp only [Pl.val, Pl.cells] at *
  go_enter Tryz.func57, Tryz.ntmps57
  go_wp2_with fail
  refine (hCB.out _ hr).mono ?_; rintro e w1 ⟨rfl, B1⟩
  have hB1 := below_next hB0 B1
  have hr1 := hr.below B1
  have hp1 := PoolB.keep _ _ hp0 B1
  clear hCB z0 z1 z2 z3 hr hB0 B1 hp0
  obtain ⟨z0, z1, z2, z3⟩ := hp1.at_
  dsimp only at z0 z1 z2 z3
  go_wp2_with fail
  refine (hD.out _ hr1).mono ?_; rintro e w2 hret
  have hret2 := hf.out _ _ _ hret hB1
  obtain ⟨A', n', c', D, rfl, h2, h3, h4⟩ := hret2
  clear hret hD hf
  go_wp2
  go_ret2
  exact ⟨A', n', c', D, rfl, h2, h3, h4⟩
end Go.Proofs.YtffhobmkbabllaaGreatDoor

/- PLAIN: the fastest one swims in the last heat, in the lane that is given first. -/
namespace Go.Proofs.YtffhobmkbabllaaGreatDoor
open Go.RowKit Go.Shelf Go.Lib Go.Sort
set_option linter.unusedVariables false

theorem szV_pos {lanes le many : Int} (h1 : 1 ≤ lanes) (h2 : 1 ≤ le ∧ le ≤ lanes) (h0 : 0 ≤ many) (he : szErr lanes many = 0) : ∀ x ∈ szV lanes le many, 1 ≤ x := by
  have hN : ¬ 60 < szN lanes many := fun h => by unfold szErr at he; rw [if_pos h] at he; omega
  unfold szV
  rw [if_neg hN]
  by_cases hz : szN lanes many = 0
  · rw [hz, if_neg (by omega)]
    intro x hx; simp [szS] at hx
  rcases sz_bd h1 h0 with ⟨_, b1, b2⟩ | ⟨b0, b1, _⟩
  · obtain ⟨k, hk⟩ : ∃ k, szN lanes many = k + 1 := by
      rcases Nat.eq_zero_or_pos (szN lanes many) with h | h
      · exfalso; exact hz h
      · exact ⟨szN lanes many - 1, by omega⟩
    have hA : szA lanes many = many - lanes * k := by unfold szA; rw [hk]; push_cast; rw [show (k : Int) + 1 - 1 = k by omega]
    rw [hk] at b1 b2
    push_cast at b1 b2
    rw [Int.mul_sub, Int.mul_add] at b1
    rw [Int.mul_add] at b2
    have a0 : 0 < szA lanes many := by omega
    have a1 : szA lanes many ≤ lanes := by omega
    generalize hP : lanes * (k : Int) = P at *
    rw [hk, szS_two]
    split
    · rename_i hc
      obtain ⟨j, rfl⟩ : ∃ j, k = j + 1 := ⟨k - 1, by omega⟩
      have hK : 0 ≤ szK lanes le many ∧ szA lanes many + szK lanes le many ≤ le ∧ le ≤ lanes - szK lanes le many := by
        unfold szK
        rw [if_pos ⟨by omega, hc.2⟩]
        omega
      rw [List.replicate_succ, List.set_cons_zero, List.set_cons_succ, List.set_cons_zero]
      intro x hx
      rcases List.mem_cons.1 hx with rfl | hx
      · omega
      · rcases List.mem_cons.1 hx with rfl | hx
        · omega
        · obtain ⟨_, rfl⟩ := List.mem_replicate.1 hx; omega
    · intro x hx
      rcases List.mem_cons.1 hx with rfl | hx
      · omega
      · obtain ⟨_, rfl⟩ := List.mem_replicate.1 hx; omega
  · exact absurd b1 hz
section
variable {α : Type} {S : List Int}
theorem app_head {l r : List α} {s : α} (h : l[0]? = some s) : (l ++ r)[0]? = some s := by
  cases l with
  | nil => simp at h
  | cons a t => simpa using h
theorem push_head {H : List (List α)} {i j : Nat} {s t : α} (h : (H.getD j [])[0]? = some s) : ((pushH i t H).getD j [])[0]? = some s := by
  by_cases e : j = i
  · subst e
    have hj : j < H.length := by
      rcases Nat.lt_or_ge j H.length with h9 | h9
      · exact h9
      · rw [List.getD_eq_getElem?_getD, List.getElem?_eq_none h9] at h; simp at h
    rw [push_at hj]; exact app_head h
  · rw [push_ne e]; exact h
theorem cir_head {lo n : Nat} : ∀ (k at_ : Nat) (H : List (List α)) (who : List α) (H1 : List (List α)) (w1 : List α) (j : Nat) (s : α), Cir S lo n k at_ H who H1 w1 → (H.getD j [])[0]? = some s → (H1.getD j [])[0]? = some s
  | 0, at_, H, who, H1, w1, j, s, h, h2 => by rw [h.2.1]; exact h2
  | k + 1, at_, H, [], H1, w1, j, s, h, h2 => h.2.elim
  | k + 1, at_, H, x :: r, H1, w1, j, s, h, h2 => by
    have h3 : if remH S H at_ ≤ 0 then Cir S lo n k (befH lo n at_) H (x :: r) H1 w1 else Cir S lo n k (befH lo n at_) (pushH at_ x H) r H1 w1 := h.2
    split at h3
    · exact cir_head k _ H _ H1 w1 j s h3 h2
    · exact cir_head k _ _ _ H1 w1 j s h3 (push_head h2)
theorem set_head {H : List (List α)} {i j : Nat} {s : α} {r : List α} (h : (H.getD j [])[0]? = some s) : ((H.set i (H.getD i [] ++ r)).getD j [])[0]? = some s := by
  by_cases e : i = j
  · subst e
    have hj : i < H.length := by
      rcases Nat.lt_or_ge i H.length with h9 | h9
      · exact h9
      · rw [List.getD_eq_getElem?_getD, List.getElem?_eq_none h9] at h; simp at h
    rw [List.getD_eq_getElem?_getD (l := H.set _ _), List.getElem?_set_self hj]
    exact app_head h
  · rw [List.getD_eq_getElem?_getD, List.getElem?_set_ne e, ← List.getD_eq_getElem?_getD]; exact h
theorem fill_head : ∀ (i : Nat) (H : List (List α)) (who : List α) (j : Nat) (s : α), (H.getD j [])[0]? = some s → ((fillH S i H who).getD j [])[0]? = some s
  | 0, H, who, j, s, h => h
  | i + 1, H, who, j, s, h => by unfold fillH; exact fill_head i _ _ j s (set_head h)
end
theorem rem_rep (S : List Int) (i : Nat) : remH S (List.replicate S.length ([] : List ByteArray)) i = S.getD i 0 := by
  unfold remH
  rw [List.getD_eq_getElem?_getD (l := List.replicate _ _), List.getElem?_replicate]
  split <;> simp
theorem draw_head {S : List Int} {ci : Int} {s : ByteArray} {r : List ByteArray} {R : List (List ByteArray)} (hI : InvH S (List.replicate S.length ([] : List ByteArray)) (s :: r)) (hp : 0 < S.length) (hl : 0 < S.getD (S.length - 1) 0) (hR : DrawR S ci (s :: r) R) : (R.getD (S.length - 1) [])[0]? = some s := by
  have h0 := rem_rep S (S.length - 1)
  unfold DrawR at hR
  split at hR
  · rename_i hC
    obtain ⟨k, H1, w1, hc, rfl⟩ := hR
    obtain ⟨c, hce⟩ : ∃ c : Nat, min ci (S.length : Int) = c := ⟨(min ci (S.length : Int)).toNat, by omega⟩
    rw [hce] at hC hc
    have h1 : c ≤ S.length := by omega
    refine fill_head _ _ _ _ _ ?_
    cases k with
    | zero =>
      rcases hc.1 with h9 | h9
      · cases h9
      · have := room_ge hI.fit (lo := S.length - (c : Int).toNat) (j := S.length - 1) (m := S.length - (S.length - (c : Int).toNat)) (by omega) (by omega)
        omega
    | succ k =>
      have h3 : if remH S (List.replicate S.length ([] : List ByteArray)) (S.length - 1) ≤ 0 then Cir S (S.length - (c : Int).toNat) S.length k (befH (S.length - (c : Int).toNat) S.length (S.length - 1)) (List.replicate S.length ([] : List ByteArray)) (s :: r) H1 w1 else Cir S (S.length - (c : Int).toNat) S.length k (befH (S.length - (c : Int).toNat) S.length (S.length - 1)) (pushH (S.length - 1) s (List.replicate S.length ([] : List ByteArray))) r H1 w1 := hc.2
      rw [if_neg (by omega)] at h3
      refine cir_head k _ _ _ H1 w1 _ s h3 ?_
      rw [push_at (by rw [List.length_replicate]; omega), List.getD_eq_getElem?_getD, List.getElem?_replicate, if_pos (by omega)]
      rfl
  · subst hR
    obtain ⟨m, hm⟩ : ∃ m, S.length = m + 1 := ⟨S.length - 1, by omega⟩
    have h0' : remH S (List.replicate (m + 1) ([] : List ByteArray)) m = S.getD m 0 := by have := rem_rep S m; rw [hm] at this; exact this
    have hl' : 0 < S.getD m 0 := by rw [hm, Nat.add_sub_cancel] at hl; exact hl
    rw [hm, Nat.add_sub_cancel]
    unfold fillH
    refine fill_head _ _ _ _ _ ?_
    rw [List.getD_eq_getElem?_getD (l := List.set _ _ _), List.getElem?_set_self (by rw [List.length_replicate]; omega), List.getD_eq_getElem?_getD, List.getElem?_replicate, if_pos (by omega)]
    obtain ⟨q, hq⟩ : ∃ q, (remH S (List.replicate (m + 1) ([] : List ByteArray)) m).toNat = q + 1 := ⟨(remH S (List.replicate (m + 1) ([] : List ByteArray)) m).toNat - 1, by omega⟩
    rw [hq]
    rfl
theorem stIn_mem {LV : List Int} {h : Int} {s : ByteArray} : ∀ (l : List ByteArray) (j0 j : Nat), l[j]? = some s → (⟨s, h, LV.getD (j0 + j) 0⟩ : Sp) ∈ stIn LV h j0 l
  | [], _, _, hx => by simp at hx
  | x :: r, j0, 0, hx => by
    obtain rfl : x = s := by simpa using hx
    unfold stIn; exact List.mem_cons_self ..
  | x :: r, j0, j + 1, hx => by
    unfold stIn
    have := stIn_mem (LV := LV) (h := h) r (j0 + 1) j (by simpa using hx)
    rw [show j0 + 1 + j = j0 + (j + 1) by omega] at this
    exact List.mem_cons_of_mem _ this
theorem stOut_mem {LV : List Int} {s : ByteArray} {l : List ByteArray} : ∀ (R : List (List ByteArray)) (i0 i j : Nat), R[i]? = some l → l[j]? = some s → (⟨s, ((i0 + i : Nat) : Int) + 1, LV.getD j 0⟩ : Sp) ∈ stOut LV i0 R
  | [], _, _, _, hx, _ => by simp at hx
  | x :: r, i0, 0, j, hx, hy => by
    obtain rfl : x = l := by simpa using hx
    unfold stOut
    have := stIn_mem (LV := LV) (h := (i0 : Int) + 1) x 0 j hy
    rw [Nat.zero_add] at this
    exact List.mem_append_left _ this
  | x :: r, i0, i + 1, j, hx, hy => by
    unfold stOut
    have := stOut_mem (LV := LV) r (i0 + 1) i j (by simpa using hx) hy
    rw [show i0 + 1 + i = i0 + (i + 1) by omega] at this
    exact List.mem_append_right _ this
theorem stIn_heat {LV : List Int} {h : Int} {x : Sp} : ∀ (l : List ByteArray) (j : Nat), x ∈ stIn LV h j l → x.heat = h
  | [], _, hx => by cases hx
  | s :: r, j, hx => by
    unfold stIn at hx
    rcases List.mem_cons.1 hx with rfl | h9
    · rfl
    · exact stIn_heat r (j + 1) h9
theorem stOut_heat {LV : List Int} {x : Sp} : ∀ (R : List (List ByteArray)) (i : Nat), x ∈ stOut LV i R → (i : Int) + 1 ≤ x.heat ∧ x.heat ≤ (i : Int) + R.length
  | [], _, hx => by cases hx
  | l :: r, i, hx => by
    unfold stOut at hx
    rw [List.length_cons]
    rcases List.mem_append.1 hx with h9 | h9
    · have := stIn_heat l 0 h9; omega
    · have := stOut_heat r (i + 1) h9; omega
/-- the draw's last start stands in the last heat -/
theorem last_heat {LV : List Int} {R : List (List ByteArray)} {D : List Sp} {s : ByteArray} (hD : SpSorted (stOut LV 0 R) D) (hp : 0 < R.length) (hh : (R.getD (R.length - 1) [])[0]? = some s) : ∃ x, D[D.length - 1]? = some x ∧ x.heat = (R.length : Int) ∧ (⟨s, (R.length : Int), LV.getD 0 0⟩ : Sp) ∈ D := by
  obtain ⟨l, hl⟩ := at_of_lt (l := R) (k := R.length - 1) (by omega)
  rw [List.getD_eq_getElem?_getD, hl] at hh
  have hm := stOut_mem (LV := LV) R 0 (R.length - 1) 0 hl hh
  rw [show (((0 + (R.length - 1) : Nat) : Int) + 1) = (R.length : Int) by omega] at hm
  have hm2 := hD.1.mem_iff.2 hm
  have hd : 0 < D.length := by cases D with
    | nil => cases hm2
    | cons _ _ => simp
  obtain ⟨x, hx⟩ := at_of_lt (l := D) (k := D.length - 1) (by omega)
  refine ⟨x, hx, ?_, hm2⟩
  have hb := (stOut_heat R 0 (hD.1.mem_iff.1 (List.mem_of_getElem? hx))).2
  obtain ⟨i, hi, ei⟩ := List.getElem_of_mem hm2
  have h2 := hD.2
  rw [List.pairwise_iff_getElem] at h2
  have hx2 : D[D.length - 1]'(by omega) = x := by rw [List.getElem?_eq_getElem (by omega)] at hx; exact Option.some.inj hx
  by_cases e : i = D.length - 1
  · subst e
    rw [hx2] at ei
    rw [ei]
  · have h3 := h2 i (D.length - 1) hi (by omega) (by omega)
    rw [hx2, ei, spLt_no] at h3
    dsimp only at h3
    omega
/-- the fastest one -/
theorem fastest {p : Pl} (hp : PlOk p) {l : List Sd} (h0 : seedErr l = 0) (hn : 0 < l.length) (hn2 : l.length < 40) {R : List (List ByteArray)} (hR : DrawR (szV (p.hi - p.lo + 1) p.le l.length) p.ci (orderW l) R) {D : List Sp} (hD : SpSorted (stOut (laneV p.lo p.hi) 0 R) D) :
    ∃ s x ln, (orderW l)[0]? = some s ∧ D[D.length - 1]? = some x ∧ (laneV p.lo p.hi)[0]? = some ln ∧ (⟨s, x.heat, ln⟩ : Sp) ∈ D := by
  have hlan : 1 ≤ p.hi - p.lo + 1 := by have := hp.1.2; omega
  have hz := szErr_small (lanes := p.hi - p.lo + 1) (many := (l.length : Int)) hlan (by omega) (by omega)
  obtain ⟨hS1, hS2, hS3⟩ := szV_facts (lanes := p.hi - p.lo + 1) (le := p.le) (many := (l.length : Int)) hlan hp.2.2.1 (by omega) hz
  have hpos := szV_pos (lanes := p.hi - p.lo + 1) (le := p.le) (many := (l.length : Int)) hlan hp.2.2.1 (by omega) hz
  have hol := orderW_len h0 hn2
  have hI := InvH.start (S := szV (p.hi - p.lo + 1) p.le l.length) (who := orderW l) (fun x hx => (hS1 x hx).1) (by rw [hol]; exact hS2.symm)
  generalize szV (p.hi - p.lo + 1) p.le l.length = S at *
  generalize orderW l = O at *
  cases O with
  | nil => simp at hol; omega
  | cons s r =>
    have hSp : 0 < S.length := by
      cases S with
      | nil => simp at hS2; omega
      | cons _ _ => simp
    have hl : 0 < S.getD (S.length - 1) 0 := by
      obtain ⟨x, hx⟩ := at_of_lt (l := S) (k := S.length - 1) (by omega)
      rw [List.getD_eq_getElem?_getD, hx]
      have := hpos x (List.mem_of_getElem? hx)
      show 0 < x
      omega
    have hh := draw_head hI hSp hl hR
    have hRl := (drawR_inv hI hR).2.1
    rw [← hRl] at hh
    obtain ⟨x, hx, hxh, hm⟩ := last_heat hD (by omega) hh
    have hLl := laneV_len hp.1.2
    obtain ⟨ln, hln⟩ := at_of_lt (l := laneV p.lo p.hi) (k := 0) (by omega)
    refine ⟨s, x, ln, rfl, hx, hln, ?_⟩
    rw [List.getD_eq_getElem?_getD, hln] at hm
    rw [hxh]
    exact hm
end Go.Proofs.YtffhobmkbabllaaGreatDoor
