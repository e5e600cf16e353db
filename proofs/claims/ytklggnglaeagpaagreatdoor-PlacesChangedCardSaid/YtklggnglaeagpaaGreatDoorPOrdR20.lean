import Derived.Test.YtklggnglaeagpaaGreatDoorPSortR
import Derived.Test.YtklggnglaeagpaaGreatDoorPOrdC
/- slices.stableCmpFunc of exactly 20 seeds: one block of insertion sort, and one that is empty. -/
namespace Go.Proofs.YtklggnglaeagpaaGreatDoor
open Go.RowKit Go.Shelf Go.Lib Go.Sort
set_option linter.unusedVariables false

theorem sdInsE_c (p : Option Addr) (cap : Nat) (fv : Value) (w : World) :
    Calls Tryz.prog 456 #[.slice p 20 cap, .int .i64 20, .int .i64 20, fv] w fun e w' => e = .returned (.tuple #[]) ∧ w' = w := by
  go_enter Tryz.func456, Tryz.ntmps456
  go_wp2
  refine wp_loop_rounds 1 ?_
  rw [rounds_succ]
  go_wp2
  go_end0
  exact ⟨rfl, rfl⟩
set_option maxHeartbeats 1600000 in
set_option maxRecDepth 100000 in
theorem sdStable20_c {α : Type} [Inhabited α] (enc : α → List Value) (hs : ∀ x, (enc x).length = 2) (h1 : ∀ x, ∀ v ∈ enc x, v.oneCell' = true) (cf : α → α → Int) (g : Nat) (cb : Array Value) (eg : ∀ args w, (callFunc g args).run Tryz.prog w = .ok (.enter g args) w) (blk cap : Nat) (d : Array α) (w : World) (hC : CmpLays Tryz.prog g cb enc 2 cf blk 0 d.size w) (hH : HoldsK enc 2 w blk 0 d) (hblk : blk < w.heap.size) (hsz : d.size = 20) :
    Calls Tryz.prog 414 #[.slice (some ⟨blk, 0, none⟩) d.size cap, .int .i64 d.size, .func (.func g) #[] cb] w fun e w' => e = .returned (.tuple #[]) ∧ ∃ n os, w' = sortWorldK enc 2 w blk 0 n (Sort.insertionSort (ltOf cf) d 0 d.size) os := by
  have hI := Lib.hid (sdIns_c enc hs h1 cf g cb eg blk cap 0 d.size d w hC hH hblk (Nat.zero_le _) (Nat.le_refl _) (by omega))
  have hE := Lib.hid (fun W => sdInsE_c (some ⟨blk, 0, none⟩) cap (.func (.func g) #[] cb) W)
  generalize Sort.insertionSort (ltOf cf) d 0 d.size = r at *
  clear hH hC eg h1 hs
  rw [hsz] at hI ⊢
  go_enter Tryz.func414, Tryz.ntmps414
  go_wp2
  refine wp_loop_rounds 2 ?_
  rw [rounds_succ]
  go_wp2_with fail
  refine hI.out.mono ?_; rintro e w' ⟨rfl, q, os, rfl⟩
  go_wp2
  rw [rounds_succ]
  go_wp2_with fail
  refine (hE.out _).mono ?_; rintro e w' ⟨rfl, rfl⟩
  go_wp2
  refine wp_loop_rounds 1 ?_
  rw [rounds_succ]
  go_wp2
  go_end0
  exact ⟨rfl, q, os, rfl⟩
theorem sdStableT_c {α : Type} [Inhabited α] (enc : α → List Value) (hs : ∀ x, (enc x).length = 2) (h1 : ∀ x, ∀ v ∈ enc x, v.oneCell' = true) (cf : α → α → Int) (g : Nat) (cb : Array Value) (eg : ∀ args w, (callFunc g args).run Tryz.prog w = .ok (.enter g args) w) (blk cap : Nat) (d : Array α) (w : World) (hC : CmpLays Tryz.prog g cb enc 2 cf blk 0 d.size w) (hH : HoldsK enc 2 w blk 0 d) (hblk : blk < w.heap.size) (hsz : d.size ≤ 20) :
    Calls Tryz.prog 414 #[.slice (some ⟨blk, 0, none⟩) d.size cap, .int .i64 d.size, .func (.func g) #[] cb] w fun e w' => e = .returned (.tuple #[]) ∧ ∃ n os, w' = sortWorldK enc 2 w blk 0 n (Sort.insertionSort (ltOf cf) d 0 d.size) os := by
  by_cases h : d.size = 20
  · exact sdStable20_c enc hs h1 cf g cb eg blk cap d w hC hH hblk h
  · exact sdStable_c enc hs h1 cf g cb eg blk cap d w hC hH hblk (by omega)
/-- the call's own row is the insertion sort of what it was -/
theorem sdSort20_c {α : Type} [Inhabited α] (enc : α → List Value) (hs : ∀ x, (enc x).length = 2) (h1 : ∀ x, ∀ v ∈ enc x, v.oneCell' = true) (cf : α → α → Int) (g : Nat) (cb : Array Value) (eg : ∀ args w, (callFunc g args).run Tryz.prog w = .ok (.enter g args) w) (base b n c : Nat) (l : List α) (w : World) (hC : CmpLays Tryz.prog g cb enc 2 cf b 0 n w) (h : w.ownsRow base 40 2 (.slice (some ⟨b, 0, none⟩) n c) n (l.flatMap enc)) (hn : n ≤ 20) :
    Calls Tryz.prog 348 #[.slice (some ⟨b, 0, none⟩) n c, .func (.func g) #[] cb] w fun e w' => e = .returned (.tuple #[]) ∧ w'.ownsRow base 40 2 (.slice (some ⟨b, 0, none⟩) n c) n ((insL (ltOf cf) l).flatMap enc) ∧ w.grownBy w' (some b) := by
  have hlt := (h.lt b rfl).2
  have hlen : l.length = n := own_len hs (by omega) h
  have hH := holdsK_own enc 2 hs (by omega) h
  have hS := sdStableT_c enc hs h1 cf g cb eg b c l.toArray w (by simpa [hlen] using hC) hH hlt (by simp; omega)
  have hR := own_sortedK enc 2 hs (by omega) h (l' := insL (ltOf cf) l) (by rw [insL_len, hlen])
  have e3 : Sort.insertionSort (ltOf cf) l.toArray 0 l.toArray.size = (insL (ltOf cf) l).toArray := by unfold insL; simp
  rw [e3] at hS
  simp only [List.size_toArray, hlen] at hS
  have hS' := Lib.hid hS
  clear hS hH hC eg
  have hR' := Lib.hid hR
  clear hR e3
  generalize insL (ltOf cf) l = L' at *
  go_enter Tryz.func348, Tryz.ntmps348
  go_wp2_with fail
  refine hS'.out.mono ?_; rintro e w' ⟨rfl, q, os, rfl⟩
  go_wp2
  go_end0
  exact ⟨rfl, hR'.out q os⟩
end Go.Proofs.YtklggnglaeagpaaGreatDoor

/- tumbref1.OrderOf of at most 20 seeds. -/
namespace Go.Proofs.YtklggnglaeagpaaGreatDoor
open Go.RowKit Go.Shelf Go.Lib Go.Sort
set_option linter.unusedVariables false

/-- seeds in a row of the call's own, from the fastest one on: tumbref1.OrderOf$1 -/
theorem sdSortB20_c (l : List Sd) (w : World) (base n : Nat) (u : Value) (hown : w.ownsRow base 40 2 u n (l.flatMap sdE)) (hn : n ≤ 20) (hw : ∀ x ∈ l, 0 ≤ x.time ∧ x.time ≤ 360000) :
    Calls Tryz.prog 348 #[u, .func (.func 360) #[] #[]] w fun e w' => e = .returned (.tuple #[]) ∧ w'.ownsRow base 40 2 u n ((ordL l).flatMap sdE) ∧ w.grownBy w' u.ownBlock := by
  obtain ⟨A, c, rfl⟩ := own_shape hown
  have hlen := own_len sdE_len (by decide) hown
  rcases Nat.eq_zero_or_pos n with h0 | hp
  · subst h0
    have hl : l = [] := List.eq_nil_of_length_eq_zero hlen
    subst hl
    refine (sdSort0_c A c _ w).mono ?_
    rintro e w' ⟨rfl, rfl⟩
    exact ⟨rfl, by unfold ordL; rw [insL_nil]; exact hown, grown_refl _ _⟩
  obtain ⟨gb, rfl, hgb⟩ := own_someN hown hp
  obtain ⟨ls, hls⟩ := sub_list (p := fun x : Sd => 0 ≤ x.time ∧ x.time ≤ 360000) l hw
  have hl0 : 0 < ls.length := by have : (ls.map Subtype.val).length = n := by rw [hls, hlen]
                                 rw [List.length_map] at this; omega
  have hinh : Inhabited { x : Sd // 0 ≤ x.time ∧ x.time ≤ 360000 } := ⟨ls[0]⟩
  have e1 := insL_map (ltOf fun x y : { x : Sd // 0 ≤ x.time ∧ x.time ≤ 360000 } => sdCf x.1 y.1) (ltOf sdCf) Subtype.val (fun _ _ => rfl) ls
  rw [hls] at e1
  have hown' : w.ownsRow base 40 2 (.slice (some ⟨gb, 0, none⟩) n c) n (ls.flatMap fun x => sdE x.1) := by rw [sdS_flat, hls]; exact hown
  have eg : ∀ args w, (callFunc 360 args).run Tryz.prog w = .ok (.enter 360 args) w := enters_of Tryz.func360 (by kernel_rfl) rfl
  refine (sdSort20_c (fun x : { x : Sd // 0 ≤ x.time ∧ x.time ≤ 360000 } => sdE x.1) (fun _ => rfl) (fun x v hv => by simp [sdE] at hv; rcases hv with rfl | rfl <;> rfl) (fun x y => sdCf x.1 y.1) _ _ eg base gb n c ls w (fun m os dk hdk x y => ?_) hown' hn).mono ?_
  · exact (sdCmpB_c x.1 y.1 _ x.2 y.2).mono fun _ _ ⟨he, hB, hD⟩ => ⟨he, grow_of hB hD⟩
  · rintro e w' ⟨rfl, ho, hg⟩
    rw [sdS_flat, ← e1] at ho
    exact ⟨rfl, ho, hg⟩
set_option maxHeartbeats 1600000 in
set_option maxRecDepth 100000 in
theorem orderRef20_c (A : Option Addr) (n c : Nat) (l : List Sd) (w : World) (h : RSd w A n l) (hn : n ≤ 20) (h0 : seedErr l = 0) : Calls Tryz.prog 277 #[.slice A n c] w fun e w' => ∃ A' n' c', e = .returned (.slice A' n' c') ∧ RS 9 w' A' n' (orderV l) ∧ n' ≤ c' ∧ Below w.heap.size w w' := by
  obtain ⟨_, hso⟩ := seedErr_ok h0
  have hst : ∀ x ∈ l, 0 ≤ x.time ∧ x.time ≤ 360000 := fun x hx => (hso x hx).2
  have hCl := Lib.hid (cloneSd_c A n c l w h (by omega))
  have hV : orderV l = (ordL l).map Sd.who := if_pos h0
  have hol : (ordL l).length = n := by rw [ord_len]; exact h.len
  rw [hV]
  clear hV h0 hso
  generalize hOo : ordL l = O at *
  have hOl := Lib.hid hol
  have hOo' := Lib.hid hOo
  clear hol hOo
  go_enter Tryz.func277, Tryz.ntmps277
  go_wp2_with fail
  refine hCl.out.mono ?_; rintro e w0 ⟨A1, c1, rfl, ho0, B0⟩
  have hS := Lib.hid (sdSortB20_c l w0 _ n _ ho0 hn hst)
  rw [hOo'.out] at hS
  have hB := Lib.hid (fun w' (hg : w0.grownBy w' (Value.slice A1 n c1).ownBlock) => below_own B0 ho0 hg B0.size (Nat.le_refl _))
  clear hCl ho0 h
  go_wp2_with fail
  refine hS.out.mono ?_; rintro e w1 ⟨rfl, ho, hg2⟩
  have hB1 := hB.out _ hg2
  have hR1 : RSd w1 A1 n O := RN.of_own sdE_len ho hOl.out (by omega)
  have hR := Lib.hid (fun W h => hR1.below (w' := W) h)
  clear hS hg2 ho hR1 B0 hB
  go_wp2_with fail
  go_loopw [3, 12] (fun u i wr => ∃ k : Nat, k ≤ n ∧ i = .int .i64 k ∧ NL w1 u ((O.take k).map Sd.who) wr) (fun _ i _ => n - (intOf i).toNat)
  case atStart => exact ⟨0, Nat.zero_le _, rfl, NL.start w1⟩
  case round =>
    obtain ⟨k, hk, rfl, K⟩ := hrel
    obtain ⟨Au, cu, rfl⟩ := own_shape K.own
    have hlk := Lib.hid (show ((O.take k).map Sd.who).length = k by rw [List.length_map, List.length_take, hOl.out]; omega)
    rw [hlk.out] at K ⊢
    by_cases hlt : k < n
    · obtain ⟨b, off, x, rfl, hbl, hx, c0, c1⟩ := RSd_at2 (hR.out _ K.bel) hlt
      have htk := Lib.hid (show (O.take (k + 1)).map Sd.who = (O.take k).map Sd.who ++ [x.who] by rw [List.take_add_one, hx, List.map_append]; rfl)
      obtain ⟨who, time⟩ := x
      dsimp only at *
      have K5 := K.below (below_new wr (.cells #[.string who, .int .i64 time] 40))
      have z0 := (blk_facts (heap_alloc_new wr (.cells #[.string who, .int .i64 time] 40))).1 0
      have hown := K5.own
      have hsz := K5.bel.size
      rw [hlk.out] at hown
      have hA := Lib.hid (fun v' w' ho hg => K5.app (v' := v') (x := who) (w' := w') ho hg)
      rw [hlk.out] at hA
      clear hx K K5
      go_wp2_with (at_builtin; refine wpList_app rfl (.tmp 16) (.tmp 19) 97 rfl Tryz.underlying97 info_strS rfl (by omega) (by omega) hown rfl rfl (by first | rfl | (simp; done)) (by rfl) (by simp [Value.oneCell']) (by omega) hsz ?_; intro v4 w4 hown4 hg4)
      have K4 := hA.out v4 w4 hown4 hg4
      clear hown4 hg4 hown hA z0
      go_roundw
      case rel => exact ⟨k + 1, by omega, by go_num, by rw [htk.out]; exact K4⟩
      case measure => simp [intOf]; omega
    · obtain rfl : k = n := by omega
      have hrs : RS 9 wr Au k (O.map Sd.who) := by
        have h := K.own
        rw [hlk.out, List.take_of_length_le (by rw [hOl.out]; exact Nat.le_refl _)] at h
        exact RS.of_own h (by omega)
      have hbel := below_next hB1 K.bel
      have hcap : k ≤ cu := by have h := K.own; rw [hlk.out] at h; exact own_capN h
      clear K hR
      go_wp2
      go_ret
      exact ⟨Au, k, cu, rfl, hrs, hcap, hbel⟩
end Go.Proofs.YtklggnglaeagpaaGreatDoor
