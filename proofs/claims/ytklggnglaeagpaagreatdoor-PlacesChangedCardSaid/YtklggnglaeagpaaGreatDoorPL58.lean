/- PlacesChanged: Replace, FinalStarts, Text and Read are as specified for all places, starts and strings: the walk. -/
import Derived.Test.YtklggnglaeagpaaGreatDoorPStaS
import Derived.Test.YtklggnglaeagpaaGreatDoorPTxtJ
import Derived.Test.YtklggnglaeagpaaGreatDoorPSetSp
import Derived.Test.YtklggnglaeagpaaGreatDoorPPoolM
import Derived.Test.YtklggnglaeagpaaGreatDoorPPlL
import Derived.Test.YtklggnglaeagpaaGreatDoorPRankM
import Derived.Deep.RegionHeld3
import Derived.Deep.QuietTactic
import Derived.Deep.DeepCutAuto
namespace Go.Proofs.YtklggnglaeagpaaGreatDoor
open Go.RowKit Go.Lib
set_option linter.unusedVariables false

theorem mx_of_shape {W : World} (h : W.ShapedOpen Tryz.prog) : Mx W := Tryz.laysM145.s1_3 W h
/-- two lists of the same places are equal -/
theorem equalPc58_c (A1 A2 : Option Addr) (n c m d : Nat) (l : List Pc) (w : World) (h1 : RPc w A1 n l) (h2 : RPc w A2 m l) :
    Calls Tryz.prog 80 #[.slice A1 n c, .slice A2 m d] w fun e w' => e = .returned (.bool true) ∧ Below w.heap.size w w' := by
  obtain rfl : n = m := h1.len.symm.trans h2.len
  have b1 := h1.bd
  have hR1 := Lib.hid (fun W B => h1.below (w' := W) B)
  have hR2 := Lib.hid (fun W B => h2.below (w' := W) B)
  clear h1 h2
  go_enter Tryz.func80, Tryz.ntmps80
  go_wp2_with fail
  go_loopw [5, 13] (fun _ i wr => ∃ k : Nat, k ≤ n ∧ i = .int .i64 k ∧ Below w.heap.size w wr) (fun _ i _ => n - (intOf i).toNat)
  case atStart => exact ⟨0, Nat.zero_le _, rfl, Below.refl _ _⟩
  case round =>
    rename World => wr
    obtain ⟨k, hk, rfl, hB⟩ := hrel
    by_cases hlt : k < n
    · have hlti : (k : Int) < n := by omega
      obtain ⟨b, off, x, rfl, hbl, hx, c0, c1, c2⟩ := RPc_at3 (hR1.out _ hB) hlt
      obtain ⟨b', off', y, rfl, hbl', hy, d0, d1, d2⟩ := RPc_at3 (hR2.out _ hB) hlt
      obtain rfl : x = y := by rw [hx] at hy; exact Option.some.inj hy
      obtain ⟨who, fin, rk⟩ := x
      dsimp only at *
      clear hx hy
      go_wp2
      go_quiet (fail)
      go_wp2
      go_roundw
      case rel => exact ⟨k + 1, by omega, by go_num, below_drewN hB _⟩
      case measure => simp [intOf]; omega
    · obtain rfl : k = n := by omega
      go_wp2
      go_ret
      exact ⟨rfl, hB⟩
/-- heat.Text of starts that are not right -/
theorem textE58_c (p : Pl) (hpb : PlBd p) (A : Option Addr) (n c : Nat) (l : List Sp) (w : World) (h : RSp w A n l) (h0 : startsErr p l ≠ 0) :
    Calls Tryz.prog 88 #[p.val, .slice A n c] w fun e w' => e = .returned (.tuple #[.string ⟨#[]⟩, .int .i64 (startsErr p l)]) ∧ Below w.heap.size w w' := by
  have hCF := Lib.hid (fun W h => checkStarts_c p hpb A n c l W h)
  have hP0 : PoolB w.heap.size p (w.alloc (.cells p.cells 131)) := heap_alloc_new w _
  have hB0 := below_new w (.cells p.cells 131)
  have h1 := h.below hB0
  have hd : (startsErr p l != 0) = true := by simpa using h0
  generalize startsErr p l = E at *
  obtain ⟨z0, z1, z2, z3⟩ := hP0.at_
  obtain ⟨lo, hi, le, ci⟩ := p
  dsimp only [Pl.val, Pl.cells] at *
  clear h h0
  go_enter Tryz.func88, Tryz.ntmps88
  go_wp2_with fail
  refine (hCF.out _ h1).mono ?_; rintro e w2 ⟨rfl, B2⟩
  have hB2 := below_next hB0 B2
  go_wp2
  go_ret2
  exact ⟨rfl, hB2⟩
/-- heat.Read of a wrong pool -/
theorem readE58_c (p : Pl) (hpb : PlBd p) (s : ByteArray) (w : World) (h0 : poolErr p ≠ 0) :
    Calls Tryz.prog 92 #[p.val, .string s] w fun e w' => e = .returned (.tuple #[.slice none 0 0, .int .i64 0, .int .i64 (poolErr p)]) ∧ Below w.heap.size w w' := by
  have hCF := Lib.hid (fun W => checkPool_c p hpb W)
  have hP0 : PoolB w.heap.size p (w.alloc (.cells p.cells 131)) := heap_alloc_new w _
  have hB0 := below_new w (.cells p.cells 131)
  have hd : (poolErr p != 0) = true := by simpa using h0
  generalize poolErr p = E at *
  obtain ⟨z0, z1, z2, z3⟩ := hP0.at_
  obtain ⟨lo, hi, le, ci⟩ := p
  dsimp only [Pl.val, Pl.cells] at *
  clear h0
  go_enter Tryz.func92, Tryz.ntmps92
  go_wp2_with fail
  refine (hCF.out _).mono ?_; rintro e w2 ⟨rfl, B2⟩
  have hB2 := below_next hB0 B2
  go_wp2
  go_ret3
  exact ⟨rfl, hB2⟩
theorem blk58 {w w' : World} {b g : Nat} {zs : Zs} {k : Nat} {t : TypeId} {cs : Array Value} (h : w.heap[b]? = some (.cells cs t (0, 0))) (hs : St w g zs k) (hg : w.grownBy w' (some g)) (hne : t ≠ 25) : w'.heap[b]? = some (.cells cs t (0, 0)) := hs.keep hg b cs t (0, 0) hne h
/-- what is carried: the boxes of the final and the pool, and what is known of memory beside -/
structure K58 (w : World) (f : Fl) (p : Pl) (b4 b5 : Nat) (X : World → Prop) (wx : World) : Prop where
  fb : FinB b4 f wx
  pb : PoolB b5 p wx
  x : X wx
  kp : ∀ a b, X a → Below a.heap.size a b → X b
  bel : Below w.heap.size w wx
section
variable {w wx w' : World} {f : Fl} {p : Pl} {b4 b5 g k k' : Nat} {zs : Zs} {X Y : World → Prop}
theorem K58.below (h : K58 w f p b4 b5 X wx) (B : Below wx.heap.size wx w') : K58 w f p b4 b5 X w' := ⟨h.fb.keep _ _ B, h.pb.keep _ _ B, h.kp _ _ h.x B, h.kp, below_next h.bel B⟩
theorem K58.stream (h : K58 w f p b4 b5 X wx) (hs : St wx w.heap.size zs k) (hg : wx.grownBy w' (some w.heap.size)) (hY : Y w') (hk : ∀ a b, Y a → Below a.heap.size a b → Y b) : K58 w f p b4 b5 Y w' :=
  ⟨blk58 h.fb hs hg (by decide), blk58 h.pb hs hg (by decide), hY, hk, h.bel.trans (grown_below hg (Nat.le_refl _) h.bel.size)⟩
theorem K58.to (h : K58 w f p b4 b5 X wx) (hY : Y wx) (hk : ∀ a b, Y a → Below a.heap.size a b → Y b) : K58 w f p b4 b5 Y wx := ⟨h.fb, h.pb, hY, hk, h.bel⟩
end
theorem stIn_mem58 {LV : List Int} {h : Int} : ∀ {l : List ByteArray} {j : Nat} {s : Sp}, s ∈ stIn LV h j l → ∃ i, s.heat = h ∧ l[i]? = some s.who ∧ s.lane = LV.getD (j + i) 0
  | [], _, _, hs => by simp [stIn] at hs
  | a :: r, j, s, hs => by
    unfold stIn at hs
    rcases List.mem_cons.1 hs with rfl | hs
    · exact ⟨0, rfl, rfl, rfl⟩
    · obtain ⟨i, h1, h2, h3⟩ := stIn_mem58 hs
      exact ⟨i + 1, h1, h2, by rw [h3]; congr 1; omega⟩
theorem stOut_mem58 {LV : List Int} : ∀ {H : List (List ByteArray)} {i : Nat} {s : Sp}, s ∈ stOut LV i H → ∃ k l, H[k]? = some l ∧ s ∈ stIn LV (((i + k : Nat) : Int) + 1) 0 l
  | [], _, _, hs => by simp [stOut] at hs
  | l :: r, i, s, hs => by
    unfold stOut at hs
    rcases List.mem_append.1 hs with hs | hs
    · exact ⟨0, l, rfl, hs⟩
    · obtain ⟨k, l', h1, h2⟩ := stOut_mem58 hs
      exact ⟨k + 1, l', h1, by rw [show i + (k + 1) = i + 1 + k by omega]; exact h2⟩
theorem stIn_pair58 {LV : List Int} (hn : LV.Nodup) {h : Int} : ∀ (l : List ByteArray) (j : Nat), j + l.length ≤ LV.length → (stIn LV h j l).Pairwise fun x y => x.lane ≠ y.lane
  | [], _, _ => List.Pairwise.nil
  | a :: r, j, hl => by
    rw [List.length_cons] at hl
    unfold stIn
    refine List.pairwise_cons.2 ⟨fun s hs => ?_, stIn_pair58 hn r (j + 1) (by omega)⟩
    obtain ⟨i, _, h2, h3⟩ := stIn_mem58 hs
    have hi := lt_of_at h2
    rw [h3]
    show LV.getD j 0 ≠ LV.getD (j + 1 + i) 0
    rw [List.getD_eq_getElem?_getD, List.getD_eq_getElem?_getD, List.getElem?_eq_getElem (by omega), List.getElem?_eq_getElem (by omega)]
    exact List.pairwise_iff_getElem.1 hn j (j + 1 + i) (by omega) (by omega) (by omega)
theorem stOut_pair58 {LV : List Int} (hn : LV.Nodup) : ∀ (H : List (List ByteArray)) (i : Nat), (∀ l ∈ H, l.length ≤ LV.length) → (stOut LV i H).Pairwise fun x y => ¬ (x.heat = y.heat ∧ x.lane = y.lane)
  | [], _, _ => List.Pairwise.nil
  | l :: r, i, hl => by
    unfold stOut
    refine List.pairwise_append.2 ⟨(stIn_pair58 hn l 0 (by have := hl l (by simp); omega)).imp fun h hc => h hc.2, stOut_pair58 hn r (i + 1) (fun x hx => hl x (by simp [hx])), fun x hx y hy hc => ?_⟩
    obtain ⟨_, h1, _, _⟩ := stIn_mem58 hx
    obtain ⟨k, l', _, h3⟩ := stOut_mem58 hy
    obtain ⟨_, h4, _, _⟩ := stIn_mem58 h3
    have := hc.1
    rw [h1, h4] at this
    push_cast at this
    omega
theorem lanes_ok58 : ∀ lo hi : Fin 11, 1 ≤ lo.val → lo.val ≤ hi.val → (laneV lo.val hi.val).Nodup ∧ ∀ x ∈ laneV lo.val hi.val, (lo.val : Int) ≤ x ∧ x ≤ hi.val := by decide +kernel
theorem spSort_uniq58 {M L1 L2 : List Sp} (hd : M.Pairwise fun x y => ¬ (x.heat = y.heat ∧ x.lane = y.lane)) (h1 : SpSorted M L1) (h2 : SpSortF M L2) : L1 = L2 := by
  refine List.Perm.eq_of_pairwise (le := fun x y => ltOf spCf y x = false) (fun a b ha hb h3 h4 => ?_) h1.2 h2.2 (h1.1.trans h2.1.symm)
  rw [spLt_no] at h3 h4
  have ha' := h1.1.mem_iff.1 ha
  have hb' := h2.1.mem_iff.1 hb
  by_cases e : a = b
  · exact e
  · have h5 : a.heat = b.heat ∧ a.lane = b.lane := by omega
    obtain ⟨i, hi, ei⟩ := List.getElem_of_mem ha'
    obtain ⟨j, hj, ej⟩ := List.getElem_of_mem hb'
    have hp := List.pairwise_iff_getElem.1 hd
    rcases Nat.lt_trichotomy i j with h6 | h6 | h6
    · have := hp i j hi hj h6
      rw [ei, ej] at this
      exact absurd h5 this
    · subst h6
      exact absurd (ei.symm.trans ej) e
    · have := hp j i hj hi h6
      rw [ei, ej] at this
      exact absurd ⟨h5.1.symm, h5.2.symm⟩ this
/-- both lists of final starts are the same -/
theorem fs_uniq {p : Pl} (hp : PlOk p) {f : Fl} (hf : FlOk f) {P : List Pc} (hok : PlsOk f P) (hfit : f.sz ≤ p.hi - p.lo + 1) {L1 L2 : List Sp} (h1 : SpSorted (stOut (laneV p.lo p.hi) 0 (heatsV P f.mn.toNat)) L1) (h2 : SpSortF (stOut (laneV p.lo p.hi) 0 (heatsV P f.mn.toNat)) L2) : L1 = L2 := by
  refine spSort_uniq58 (stOut_pair58 ?_ _ _ (fun l hl => ?_)) h1 h2
  · have e1 : ((p.lo.toNat : Nat) : Int) = p.lo := by have := hp.1.1; omega
    have e2 : ((p.hi.toNat : Nat) : Int) = p.hi := by have := hp.1.1; have := hp.1.2; omega
    have h9 := (lanes_ok58 ⟨p.lo.toNat, by have := hp.1.1; have := hp.1.2; have := hp.2.1; omega⟩ ⟨p.hi.toNat, by have := hp.1.1; have := hp.1.2; have := hp.2.1; omega⟩ (by have := hp.1.1; show 1 ≤ p.lo.toNat; omega) (by have := hp.1.1; have := hp.1.2; show p.lo.toNat ≤ p.hi.toNat; omega)).1
    simp only [e1, e2] at h9
    exact h9
  · obtain ⟨v, hv1, hv2, hl3, _⟩ := heatsV_mem P _ l hl
    have h9 := nmF_len hf hok hv1
    have h8 := laneV_len hp.1.2
    rw [hl3]
    omega
theorem fsErr_ok {p : Pl} {f : Fl} {P : List Pc} (h : fsErr p f P = 0) : poolErr p = 0 ∧ finErr f = 0 ∧ placesErr f P = 0 ∧ f.sz ≤ p.hi - p.lo + 1 := by
  unfold fsErr at h
  by_cases h1 : poolErr p = 0
  · rw [if_neg (by simp [h1])] at h
    by_cases h2 : finErr f = 0
    · rw [if_neg (by simp [h2])] at h
      by_cases h3 : placesErr f P = 0
      · rw [if_neg (by simp [h3])] at h
        by_cases h4 : p.hi - p.lo + 1 < f.sz
        · rw [if_pos h4] at h; cases h
        · exact ⟨h1, h2, h3, by omega⟩
      · rw [if_pos h3] at h; exact absurd h h3
    · rw [if_pos h2] at h; exact absurd h h2
  · rw [if_pos h1] at h; exact absurd h h1
theorem rplErr_ok {f : Fl} {P : List Pc} {who : List ByteArray} (h : rplErr f P who = 0) : PlsOk f P := by
  unfold rplErr at h
  by_cases h2 : finErr f = 0
  · rw [if_neg (by simp [h2])] at h
    by_cases h3 : placesErr f P = 0
    · exact plsOk_of h3
    · rw [if_pos h3] at h; exact absurd h h3
  · rw [if_pos h2] at h; exact absurd h h2
set_option maxHeartbeats 12800000 in
set_option maxRecDepth 100000 in
theorem placesChanged_walk (a0 : Option Addr) (len0 cap0 : Nat) (z0 : List Int) (w : World) (w0 : IsRow .i64 w a0 len0 cap0 z0) (hmx : Mx w) (htab : Tb w) (hex : Ex w) :
    Calls Tryz.prog 8 #[.slice a0 len0 cap0] w fun e w' => e = .returned (.bool true) ∧ Below w.heap.size w w' := by
  have hs := law_start w0
  clear w0
  generalize Zs.mk (z0.take len0) w.heap.size = zs at *
  have hB1 := below_new w (.cells #[.slice a0 len0 cap0, .int .i64 0] 25)
  go_enter Tryz.func8, Tryz.ntmps8
  go_wp2_with fail
  refine (finalOf_c w.heap.size zs 0 _ hs (by omega)).mono ?_; rintro e w2 ⟨sz, mn, rs, k2, rfl, q0, q1, q2, s2, hk2, g2⟩
  have hB2 := hB1.trans (grown_below g2 (Nat.le_refl _) hB1.size)
  clear hs hB1 g2
  go_wp2_with fail
  refine (poolOf_c w.heap.size zs k2 _ s2 (by omega)).mono ?_; rintro e w3 ⟨lo, hi, le, ci, k3, rfl, p0, p1, p2, p3, s3, hk3, g3⟩
  have hB3 := hB2.trans (grown_below g3 (Nat.le_refl _) hB2.size)
  have hbd : PlBd ⟨lo, hi, le, ci⟩ := ⟨p0, p1⟩
  clear hB2 g3 s2
  go_upto_region 3 with fail
  have hz3 := hB3.size
  have K0 : K58 w ⟨sz, mn, rs⟩ ⟨lo, hi, le, ci⟩ w3.heap.size (w3.heap.size + 1) (fun _ => True) ((w3.alloc (.cells #[.int .i64 sz, .int .i64 mn, .int .i64 rs] 128)).alloc (.cells #[.int .i64 lo, .int .i64 hi, .int .i64 le, .int .i64 ci] 131)) := by
    refine ⟨FinB.keep _ _ (heap_alloc_new w3 _) (below_new _ _), ?_, trivial, fun _ _ _ _ => trivial, below_next (below_next hB3 (below_new w3 _)) (below_new _ _)⟩
    have h9 := heap_alloc_new (w3.alloc (.cells #[.int .i64 sz, .int .i64 mn, .int .i64 rs] 128)) (.cells #[.int .i64 lo, .int .i64 hi, .int .i64 le, .int .i64 ci] 131)
    rw [alloc_size] at h9
    exact h9
  have s4 := (s3.alloc (.cells #[.int .i64 sz, .int .i64 mn, .int .i64 rs] 128)).alloc (.cells #[.int .i64 lo, .int .i64 hi, .int .i64 le, .int .i64 ci] 131)
  clear hB3 s3 q0 q1 q2 p0 p1 p2 p3
  generalize (w3.alloc (.cells #[.int .i64 sz, .int .i64 mn, .int .i64 rs] 128)).alloc (.cells #[.int .i64 lo, .int .i64 hi, .int .i64 le, .int .i64 ci] 131) = w4 at *
  generalize w3.heap.size = b4 at *
  have hFa := Lib.hid (fun X v (h : K58 w ⟨sz, mn, rs⟩ ⟨lo, hi, le, ci⟩ b4 (b4 + 1) X v) => h.fb.at_)
  have hPa := Lib.hid (fun X v (h : K58 w ⟨sz, mn, rs⟩ ⟨lo, hi, le, ci⟩ b4 (b4 + 1) X v) => h.pb.at_)
  dsimp only at hFa hPa
  obtain ⟨y0, y1, y2⟩ := hFa.out _ _ K0
  go_wp2_with fail
  refine (placeList_c ⟨sz, mn, rs⟩ _ zs k3 w4 w s4 (by omega) htab K0.bel (Nat.le_refl _)).mono ?_; rintro e w5 ⟨A, n, c, x, k5, rfl, ho5, hl5, hn14, s5, hk5, g5⟩
  have hx5 : RPc w5 A n x := RN.of_own pcE_len ho5 hl5 (by omega)
  have K5 := K0.stream (Y := fun v => RPc v A n x) s4 g5 hx5 (fun a b h B => h.below B)
  clear y0 y1 y2 K0 s4 g5 ho5 hx5
  go_wp2_with fail
  refine (placeNames_c A n c x w5 K5.x (by omega)).mono ?_; rintro e w6 ⟨A6, n6, c6, rfl, r6, B6⟩
  have K6 := K5.below B6
  have s6 := s5.below B6
  have hn6 : n6 ≤ 14 := by have := r6.len; rw [List.length_map, hl5] at this; omega
  clear K5 s5 B6
  go_wp2_with fail
  refine (taken_c _ zs k5 n6 c6 A6 (x.map Pc.who) w6 s6 (by omega) (by omega) r6).mono ?_; rintro e w7 ⟨AW, nW, cW, who, k7, rfl, rW, capW, hnW, s7, hk7, g7⟩
  have K7 := K6.stream (Y := fun v => RPc v A n x ∧ RS 9 v AW nW who) s6 g7 ⟨K6.x.keep (T := 25) (by decide) (s6.keep g7), rW⟩ (fun a b h B => ⟨h.1.below B, h.2.below B⟩)
  clear K6 s6 g7 r6 rW
  obtain ⟨y0, y1, y2⟩ := hFa.out _ _ K7
  go_wp2_with fail
  refine (finalFault_c ⟨sz, mn, rs⟩ _).mono ?_; rintro e w8 ⟨rfl, B8⟩
  have K8 := K7.below B8
  have s8 := s7.below B8
  clear K7 s7 B8 y0 y1 y2
  have hPf := Lib.hid (show pfErr ⟨sz, mn, rs⟩ x = if finErr ⟨sz, mn, rs⟩ = 0 then placesErr ⟨sz, mn, rs⟩ x else finErr ⟨sz, mn, rs⟩ from rfl)
  go_upto_if 42 with fail
  go_cut [8] (fun s8 wx => s8 = .int .i64 (pfErr ⟨sz, mn, rs⟩ x) ∧ K58 w ⟨sz, mn, rs⟩ ⟨lo, hi, le, ci⟩ b4 (b4 + 1) (fun v => RPc v A n x ∧ RS 9 v AW nW who) wx ∧ St wx w.heap.size zs k7)
  case first => as_aux_lemma =>
    by_cases hfe : finErr ⟨sz, mn, rs⟩ = 0
    · have hfo := finErr_ok hfe
      have hd : (finErr ⟨sz, mn, rs⟩ == 0) = true := by simpa using hfe
      obtain ⟨y0, y1, y2⟩ := hFa.out _ _ K8
      have hE := Lib.hid (show pfErr ⟨sz, mn, rs⟩ x = placesErr ⟨sz, mn, rs⟩ x by rw [hPf.out, if_pos hfe])
      have hc := Lib.hid (placesFaultX_c ⟨sz, mn, rs⟩ hfo A n c x w8 K8.x.1)
      generalize finErr ⟨sz, mn, rs⟩ = FE at *
      generalize placesErr ⟨sz, mn, rs⟩ x = LE at *
      generalize pfErr ⟨sz, mn, rs⟩ x = PF at *
      clear hfe hPf hfo
      go_wp2_with fail
      refine hc.out.mono ?_; rintro e w9 ⟨rfl, B9⟩
      have K9 := K8.below B9
      have s9 := s8.below B9
      clear K8 s8 B9 y0 y1 y2 hc
      go_wp2
      go_meet
      case rel => exact ⟨by rw [hE.out], K9, s9⟩
    · have hd : (finErr ⟨sz, mn, rs⟩ == 0) = false := by simpa using hfe
      have hE := Lib.hid (show pfErr ⟨sz, mn, rs⟩ x = finErr ⟨sz, mn, rs⟩ by rw [hPf.out, if_neg hfe])
      generalize finErr ⟨sz, mn, rs⟩ = FE at *
      generalize pfErr ⟨sz, mn, rs⟩ x = PF at *
      clear hfe hPf
      go_wp2
      go_meet
      case rel => exact ⟨by rw [hE.out], K8, s8⟩
  case rest =>
  clear K8 s8 hPf
  obtain ⟨rfl, K8, s8⟩ := hcut
  rename World => w8
  have hOr1 := Lib.hid (rplErr_or ⟨sz, mn, rs⟩ x who)
  have hRok := Lib.hid (fun h => rplErr_ok (f := ⟨sz, mn, rs⟩) (P := x) (who := who) h)
  have hRX := Lib.hid (fun W h hB => replaceX_c ⟨sz, mn, rs⟩ A AW n c nW cW x who W h hB capW)
  have hOr2 := Lib.hid (fsErr_or ⟨lo, hi, le, ci⟩ ⟨sz, mn, rs⟩ x)
  generalize pfErr ⟨sz, mn, rs⟩ x = PF at *
  go_wp2_with fail
  refine (placeNames_c A n c x w8 K8.x.1 (by omega)).mono ?_; rintro e w9 ⟨A9, n9, c9, rfl, r9, B9⟩
  have K9 := K8.below B9
  have s9 := s8.below B9
  clear K8 s8 B9
  go_wp2_with fail
  refine (goneFault_c A9 AW n9 c9 nW cW (x.map Pc.who) who w9 r9 K9.x.2 capW).mono ?_; rintro e w9' ⟨rfl, rfl⟩
  generalize goneErr (x.map Pc.who) who = GE at *
  clear r9
  go_wp2_with fail
  refine (orE_c _ _ _ [PF, GE] _ (R1.litAt _ _ _ [_, _] (by first | rfl | simp) rfl (by simp))).mono ?_; rintro e wm ⟨rfl, rfl⟩
  rw [← hOr1.out]
  have hz9 := K9.bel.size
  have K10 := K9.below (below_new w9 (.cells #[.int .i64 PF, .int .i64 GE] 30))
  have s10 := s9.alloc (.cells #[.int .i64 PF, .int .i64 GE] 30)
  generalize rplErr ⟨sz, mn, rs⟩ x who = RE at *
  clear hOr1 K9 s9
  obtain ⟨y0, y1, y2⟩ := hFa.out _ _ K10
  have hRX10 := Lib.hid (hRX.out _ K10.x.1 K10.x.2)
  dsimp only [Fl.val] at hRX10
  go_wp2_with fail
  refine hRX10.out.mono ?_; rintro e w11 ⟨AR, nR, cR, rfl, rR, B11⟩
  have K11 := K10.below B11
  have s11 := s10.below B11
  clear K10 s10 B11 y0 y1 y2 hRX hRX10
  go_upto_region 10 with fail
  go_cut [83] (fun s83 wx => s83 = .bool false ∧ K58 w ⟨sz, mn, rs⟩ ⟨lo, hi, le, ci⟩ b4 (b4 + 1) (fun v => RPc v A n x ∧ RS 9 v AW nW who) wx ∧ St wx w.heap.size zs k7)
  case first => as_aux_lemma =>
    have b0 : (RE != RE) = false := by simp
    by_cases hR0 : RE = 0
    · have hok := hRok.out hR0
      have hrl := rplL_eq hok who
      rw [if_pos hR0] at rR
      have b1 : (RE == 0) = true := by simpa using hR0
      have b2 : (RE != 0) = false := by simpa using hR0
      have hRO := Lib.hid (replaceOf_c A AW n c nW cW x who w11 K11.x.1 K11.x.2 (by omega))
      rw [hrl] at hRO
      generalize newL x who = NL at *
      clear hok hrl hR0
      go_wp2_with fail
      refine hRO.out.mono ?_; rintro e w12 ⟨A12, n12, c12, rfl, r12, B12⟩
      have K12 := K11.below B12
      have s12 := s11.below B12
      have hEq := Lib.hid (equalPc58_c AR A12 nR cR n12 c12 NL w12 (rR.below B12) r12)
      clear K11 s11 B12 hRO rR r12
      go_wp2_with fail
      refine hEq.out.mono ?_; rintro e w13 ⟨rfl, B13⟩
      have K13 := K12.below B13
      have s13 := s12.below B13
      clear K12 s12 B13 hEq
      go_wp2
      go_meet
      case rel => exact ⟨rfl, K13, s13⟩
    · rw [if_neg hR0] at rR
      have hnR : nR = 0 := rR.len.symm
      subst hnR
      have b1 : (RE == 0) = false := by simpa using hR0
      have b2 : (RE != 0) = true := by simpa using hR0
      clear hR0 rR
      go_wp2
      go_meet
      case rel => exact ⟨rfl, K11, s11⟩
  case rest =>
  clear K11 s11 rR hRok
  obtain ⟨rfl, K11, s11⟩ := hcut
  rename World => w11
  have hFX := Lib.hid (fun W h => finalStartsX_c ⟨lo, hi, le, ci⟩ hbd ⟨sz, mn, rs⟩ A n c x W h)
  have hFO := Lib.hid (fun (h0 : fsErr ⟨lo, hi, le, ci⟩ ⟨sz, mn, rs⟩ x = 0) W h => finalStartsOf_c ⟨lo, hi, le, ci⟩ (poolErr_ok (fsErr_ok h0).1) ⟨sz, mn, rs⟩ (finErr_ok (fsErr_ok h0).2.1) A n c x (plsOk_of (fsErr_ok h0).2.2.1) (fsErr_ok h0).2.2.2 W h)
  have hUn := Lib.hid (fun (h0 : fsErr ⟨lo, hi, le, ci⟩ ⟨sz, mn, rs⟩ x = 0) L1 L2 h1 h2 => fs_uniq (p := ⟨lo, hi, le, ci⟩) (poolErr_ok (fsErr_ok h0).1) (f := ⟨sz, mn, rs⟩) (finErr_ok (fsErr_ok h0).2.1) (P := x) (plsOk_of (fsErr_ok h0).2.2.1) (fsErr_ok h0).2.2.2 (L1 := L1) (L2 := L2) h1 h2)
  unfold RetFx at hFX
  unfold RetFo at hFO
  generalize fsErr ⟨lo, hi, le, ci⟩ ⟨sz, mn, rs⟩ x = FS at *
  dsimp only [Pl.val, Fl.val] at hFX hFO hUn
  generalize stOut (laneV lo hi) 0 (heatsV x mn.toNat) = MM at *
  obtain ⟨y0, y1, y2⟩ := hFa.out _ _ K11
  obtain ⟨z0', z1, z2, z3⟩ := hPa.out _ _ K11
  go_wp2_with fail
  refine (hFX.out _ K11.x.1).mono ?_; rintro e w12 ⟨AS, nS, cS, DS, rfl, rS, hD0, hD1, B12⟩
  have K12 := K11.below B12
  have s12 := s11.below B12
  have hD0' := Lib.hid hD0
  have hD1' := Lib.hid hD1
  clear K11 s11 B12 y0 y1 y2 z0' z1 z2 z3 hFX hD0 hD1
  replace K12 := K12.to (Y := fun v => RPc v A n x ∧ RSp v AS nS DS) ⟨K12.x.1, rS⟩ (fun a b h B => ⟨h.1.below B, h.2.below B⟩)
  clear rS
  go_upto_region 13 with fail
  go_cut [13] (fun s13 wx => s13 = .int .i64 FS ∧ K58 w ⟨sz, mn, rs⟩ ⟨lo, hi, le, ci⟩ b4 (b4 + 1) (fun v => RPc v A n x ∧ RSp v AS nS DS) wx ∧ St wx w.heap.size zs k7)
  case first => as_aux_lemma =>
    have hPF := Lib.hid (fun W => poolFault_c ⟨lo, hi, le, ci⟩ hbd W)
    have hFF := Lib.hid (fun W => fsFault_c ⟨lo, hi, le, ci⟩ hbd ⟨sz, mn, rs⟩ W)
    dsimp only [Pl.val, Fl.val] at hPF hFF hOr2
    generalize poolErr ⟨lo, hi, le, ci⟩ = PE at *
    generalize (if hi - lo + 1 < sz then (12 : Int) else 0) = GF at *
    obtain ⟨y0, y1, y2⟩ := hFa.out _ _ K12
    obtain ⟨z0', z1, z2, z3⟩ := hPa.out _ _ K12
    have K12d := K12.below (below_drewN (Below.refl w12.heap.size w12) 1)
    have s12d := s12.drew
    have hFk := Lib.hid (fun X v v' (h : K58 w ⟨sz, mn, rs⟩ ⟨lo, hi, le, ci⟩ b4 (b4 + 1) X v) (B : Below v.heap.size v v') => h.below B)
    go_wp2_with fail
    go_region_held3 (fun w' => w'.cell? ⟨b4, 0, none⟩ = some (.int .i64 sz) ∧ w'.cell? ⟨b4, 1, none⟩ = some (.int .i64 mn) ∧ w'.cell? ⟨b4, 2, none⟩ = some (.int .i64 rs) ∧ w'.cell? ⟨b4 + 1, 0, none⟩ = some (.int .i64 lo) ∧ w'.cell? ⟨b4 + 1, 1, none⟩ = some (.int .i64 hi) ∧ w'.cell? ⟨b4 + 1, 2, none⟩ = some (.int .i64 le) ∧ w'.cell? ⟨b4 + 1, 3, none⟩ = some (.int .i64 ci))
      (first | go_keep | with_reducible exact ⟨y40, y41, y42, z40, z41, z42, z43⟩ | with_reducible exact ⟨y30, y31, y32, z30, z31, z32, z33⟩)
      (first
        | (go_at_call 83; refine (hPF.out _).mono ?_; rintro e w13 ⟨rfl, B13⟩; have K13 := hFk.out _ _ _ K12d B13; have s13 := s12d.below B13; obtain ⟨y30, y31, y32⟩ := hFa.out _ _ K13; obtain ⟨z30, z31, z32, z33⟩ := hPa.out _ _ K13)
        | (go_at_call 84; refine (hFF.out _).mono ?_; rintro e w14 ⟨rfl, B14⟩; have K14 := hFk.out _ _ _ K13 B14; have s14 := s13.below B14; obtain ⟨y40, y41, y42⟩ := hFa.out _ _ K14; obtain ⟨z40, z41, z42, z43⟩ := hPa.out _ _ K14)
        | (go_at_call 12; refine (orE_c _ _ _ [PE, PF, GF] _ (R1.litAt _ _ _ [_, _, _] (by first | rfl | simp) rfl (by simp))).mono ?_; rintro e w15 ⟨rfl, rfl⟩))
    rw [← hOr2.out]
    have K15 := hFk.out _ _ _ K14 (below_new w14 (.cells #[.int .i64 PE, .int .i64 PF, .int .i64 GF] 30))
    have s15 := s14.alloc (.cells #[.int .i64 PE, .int .i64 PF, .int .i64 GF] 30)
    clear K12 K12d K13 K14 s12 s12d s13 s14 y0 y1 y2 y30 y31 y32 y40 y41 y42 z0' z1 z2 z3 z30 z31 z32 z33 z40 z41 z42 z43 hPF hFF hFk
    go_wp2
    go_meet
    case rel => exact ⟨rfl, K15, s15⟩
  case rest =>
  clear K12 s12 hOr2
  obtain ⟨rfl, K12, s12⟩ := hcut
  rename World => w12
  go_upto_region 14 with fail
  go_cut [123] (fun s123 wx => s123 = .bool false ∧ K58 w ⟨sz, mn, rs⟩ ⟨lo, hi, le, ci⟩ b4 (b4 + 1) (fun v => True) wx ∧ St wx w.heap.size zs k7)
  case first => as_aux_lemma =>
    have b0 : (FS != FS) = false := by simp
    by_cases hF0 : FS = 0
    · have b1 : (FS == 0) = true := by simpa using hF0
      have b2 : (FS != 0) = false := by simpa using hF0
      have hFO1 := Lib.hid (hFO.out hF0 w12 K12.x.1)
      have hUn1 := Lib.hid (hUn.out hF0 DS)
      have hDS := Lib.hid (hD0'.out hF0)
      obtain ⟨y0, y1, y2⟩ := hFa.out _ _ K12
      obtain ⟨z0', z1, z2, z3⟩ := hPa.out _ _ K12
      clear hF0 hFO hUn hD0' hD1'
      go_wp2_with fail
      refine hFO1.out.mono ?_; rintro e w13 ⟨A13, n13, c13, D13, rfl, r13, hs13, B13⟩
      obtain rfl := hUn1.out D13 hDS.out hs13
      have K13 := K12.below B13
      have s13 := s12.below B13
      have hEq := Lib.hid (equalSp_c AS A13 nS cS n13 c13 DS DS w13 K13.x.2 r13)
      rw [decide_eq_true (rfl : DS = DS)] at hEq
      clear K12 s12 B13 r13 hs13 hFO1 hUn1 hDS y0 y1 y2 z0' z1 z2 z3
      go_wp2_with fail
      refine hEq.out.mono ?_; rintro e w14 ⟨rfl, q14, rfl⟩
      have K14 := (K13.below (below_drewN (Below.refl w13.heap.size w13) q14)).to (Y := fun _ => True) trivial (fun _ _ _ _ => trivial)
      have s14 := s13.below (below_drewN (Below.refl w13.heap.size w13) q14)
      clear K13 s13 hEq
      go_wp2
      go_meet
      case rel => exact ⟨rfl, K14, s14⟩
    · have b1 : (FS == 0) = false := by simpa using hF0
      have b2 : (FS != 0) = true := by simpa using hF0
      have hDS := hD1'.out hF0
      have hnS : nS = 0 := by have h9 := K12.x.2.len; rw [hDS] at h9; exact h9.symm
      subst hnS
      have K14 := K12.to (Y := fun _ => True) trivial (fun _ _ _ _ => trivial)
      clear hF0 hFO hUn hD0' hD1' hDS K12
      go_wp2
      go_meet
      case rel => exact ⟨rfl, K14, s12⟩
  case rest =>
  clear K12 s12 hFO hUn hD0' hD1'
  obtain ⟨rfl, K14, s14⟩ := hcut
  rename World => w14
  obtain ⟨y0, y1, y2⟩ := hFa.out _ _ K14
  obtain ⟨z0', z1, z2, z3⟩ := hPa.out _ _ K14
  have hSL := Lib.hid (startListB_c ⟨lo, hi, le, ci⟩ hbd _ zs k7 w14 w s14 (by omega) htab K14.bel (Nat.le_refl _))
  unfold RetSB at hSL
  dsimp only [Pl.val] at hSL
  go_wp2_with fail
  refine hSL.out.mono ?_; rintro e w15 ⟨AY, nY, cY, y, kY, rfl, hoY, hnY, _, sY, hkY, gY⟩
  have hyY : RSp w15 AY nY y := RN.of_own spE_len hoY (own_len spE_len (by decide) hoY) (by omega)
  have K15 := K14.stream (Y := fun v => RSp v AY nY y) s14 gY hyY (fun a b h B => h.below B)
  clear y0 y1 y2 z0' z1 z2 z3 K14 s14 gY hoY hyY hSL
  have hTX : Hid (∀ W, RSp W AY nY y → Tb W → Calls Tryz.prog 88 #[Pl.val ⟨lo, hi, le, ci⟩, .slice AY nY cY] W fun e w' => e = .returned (.tuple #[.string (if startsErr ⟨lo, hi, le, ci⟩ y = 0 then ⟨(stText y).toArray⟩ else ⟨#[]⟩), .int .i64 (startsErr ⟨lo, hi, le, ci⟩ y)]) ∧ Below W.heap.size W w') := Lib.hid (fun W hr hT => by
    by_cases h0 : startsErr ⟨lo, hi, le, ci⟩ y = 0
    · rw [if_pos h0, h0]
      exact startText_c ⟨lo, hi, le, ci⟩ hbd AY nY cY y W hr hT (by have := (starts_txt h0).2.1; omega) (starts_txt h0).2.2.1 h0
    · rw [if_neg h0]
      exact textE58_c ⟨lo, hi, le, ci⟩ hbd AY nY cY y W hr h0)
  have hPF := Lib.hid (fun W => poolFault_c ⟨lo, hi, le, ci⟩ hbd W)
  have hSF := Lib.hid (fun (h0 : poolErr ⟨lo, hi, le, ci⟩ = 0) A n c l W h => startsFault_c ⟨lo, hi, le, ci⟩ h0 A n c l W h)
  have hLi := Lib.hid (fun (h0 : startsErr ⟨lo, hi, le, ci⟩ y = 0) W h hT => startLines_c AY nY cY y W h hT (by have := (starts_txt h0).2.1; omega) (starts_txt h0).2.2.1)
  have hSE := Lib.hid (fun (h0 : poolErr ⟨lo, hi, le, ci⟩ ≠ 0) => show startsErr ⟨lo, hi, le, ci⟩ y = poolErr ⟨lo, hi, le, ci⟩ by unfold startsErr; rw [if_pos h0])
  have hSS := Lib.hid (fun k (W : World) (h : St W w.heap.size zs k) (hk : k + 30000 ≤ 1099511627776) (hb : Below w.heap.size w W) => startString_c ⟨lo, hi, le, ci⟩ hbd w.heap.size zs k W w h hk htab hb (Nat.le_refl _))
  have hRE := Lib.hid (fun (h0 : poolErr ⟨lo, hi, le, ci⟩ ≠ 0) s W => readE58_c ⟨lo, hi, le, ci⟩ hbd s W h0)
  have hRd := Lib.hid (fun (h0 : poolErr ⟨lo, hi, le, ci⟩ = 0) s W hs hM => readSt_c ⟨lo, hi, le, ci⟩ s W h0 hbd hs hM)
  have hRr := Lib.hid (fun (h0 : poolErr ⟨lo, hi, le, ci⟩ = 0) s W hs hM hT hE => refReadSt_c ⟨lo, hi, le, ci⟩ s W h0 hs hM hT hE)
  have hR1 := Lib.hid (fun t W W' e h => rf_one (rows := RSp) (Er := startsErr ⟨lo, hi, le, ci⟩) (parse := stParse) (t := t) (w := W) (w' := W') (e := e) (fun v => RN.nil_ _ _ _ _ _) h)
  have hR2 := Lib.hid (fun t w1 w2 v1 v2 A n c i E e2 h1 h2 => rf_two (rows := RSp) (Er := startsErr ⟨lo, hi, le, ci⟩) (parse := stParse) (t := t) (w1 := w1) (w2 := w2) (v1 := v1) (v2 := v2) (A := A) (n := n) (c := c) (i := i) (E := E) (e2 := e2) (fun v => RN.nil_ _ _ _ _ _) h1 h2)
  dsimp only [Pl.val] at hTX hPF hSF hSS hRE hRd hRr
  generalize startsErr ⟨lo, hi, le, ci⟩ = SEF at *
  obtain ⟨SE, hSEy⟩ : ∃ q, SEF y = q := ⟨_, rfl⟩
  rw [hSEy] at hTX hLi hSE
  have hSF1 := Lib.hid (fun h0 W h => hSF.out h0 AY nY cY y W h)
  rw [hSEy] at hSF1
  clear hSF hSEy
  generalize poolErr ⟨lo, hi, le, ci⟩ = PE at *
  obtain ⟨TX, hTXe⟩ : ∃ q : ByteArray, (⟨(stText y).toArray⟩ : ByteArray) = q := ⟨_, rfl⟩
  rw [hTXe] at hTX hLi
  clear hTXe
  obtain ⟨TT, hTT⟩ : ∃ q, (if SE = 0 then TX else (⟨#[]⟩ : ByteArray)) = q := ⟨_, rfl⟩
  rw [hTT] at hTX
  have hTT := Lib.hid hTT
  obtain ⟨z0', z1, z2, z3⟩ := hPa.out _ _ K15
  go_wp2_with fail
  refine (hTX.out _ K15.x (htab.below K15.bel)).mono ?_; rintro e w16 ⟨rfl, B16⟩
  have K16 := K15.below B16
  have s16 := sY.below B16
  clear K15 sY B16 z0' z1 z2 z3 hTX
  obtain ⟨z0', z1, z2, z3⟩ := hPa.out _ _ K16
  go_wp2_with fail
  refine (hPF.out _).mono ?_; rintro e w17 ⟨rfl, B17⟩
  have K17 := K16.below B17
  have s17 := s16.below B17
  clear K16 s16 B17 z0' z1 z2 z3 hPF
  go_upto_if 137 with fail
  go_cut [17] (fun s17 wx => s17 = .int .i64 SE ∧ K58 w ⟨sz, mn, rs⟩ ⟨lo, hi, le, ci⟩ b4 (b4 + 1) (fun v => RSp v AY nY y) wx ∧ St wx w.heap.size zs kY)
  case first => as_aux_lemma =>
    by_cases hpe : PE = 0
    · have hd : (PE == 0) = true := by simpa using hpe
      have hc := Lib.hid (hSF1.out hpe w17 K17.x)
      obtain ⟨z0', z1, z2, z3⟩ := hPa.out _ _ K17
      clear hpe hSF1 hSE hRE hRd hRr hLi
      go_wp2_with fail
      refine hc.out.mono ?_; rintro e w18 ⟨rfl, B18⟩
      have K18 := K17.below B18
      have s18 := s17.below B18
      clear K17 s17 B18 z0' z1 z2 z3 hc
      go_wp2
      go_meet
      case rel => exact ⟨rfl, K18, s18⟩
    · have hd : (PE == 0) = false := by simpa using hpe
      obtain rfl : SE = PE := hSE.out hpe
      clear hpe hSF1 hSE hRE hRd hRr hLi
      go_wp2
      go_meet
      case rel => exact ⟨rfl, K17, s17⟩
  case rest =>
  clear K17 s17 hSF1 hSE
  obtain ⟨rfl, K17, s17⟩ := hcut
  rename World => w17
  go_upto_region 22 with fail
  go_cut [161] (fun s161 wx => s161 = .bool false ∧ K58 w ⟨sz, mn, rs⟩ ⟨lo, hi, le, ci⟩ b4 (b4 + 1) (fun v => True) wx ∧ St wx w.heap.size zs kY)
  case first => as_aux_lemma =>
    have b0 : (SE != SE) = false := by simp
    by_cases hs0 : SE = 0
    · have b1 : (SE == 0) = true := by simpa using hs0
      have b2 : (SE != 0) = false := by simpa using hs0
      have hc := Lib.hid (hLi.out hs0 w17 K17.x (htab.below K17.bel))
      have b3 : (TX.toList == TX.toList) = true := beq_self_eq_true _
      have b4' : (TX.toList != TX.toList) = false := by simp
      obtain rfl : TX = TT := by have h9 := hTT.out; rw [if_pos hs0] at h9; exact h9
      clear hs0 hLi hRE hRd hRr hTT
      go_wp2_with fail
      refine hc.out.mono ?_; rintro e w18 ⟨rfl, B18⟩
      have K18 := (K17.below B18).to (Y := fun _ => True) trivial (fun _ _ _ _ => trivial)
      have s18 := s17.below B18
      clear K17 s17 B18 hc
      go_wp2
      go_meet
      case rel => exact ⟨rfl, K18, s18⟩
    · have b1 : (SE == 0) = false := by simpa using hs0
      have b2 : (SE != 0) = true := by simpa using hs0
      have K18 := K17.to (Y := fun _ => True) trivial (fun _ _ _ _ => trivial)
      obtain rfl : ⟨#[]⟩ = TT := by have h9 := hTT.out; rw [if_neg hs0] at h9; exact h9
      clear hs0 hLi K17 hRE hRd hRr hTT
      go_wp2
      go_meet
      case rel => exact ⟨rfl, K18, s17⟩
  case rest =>
  clear K17 s17 hLi
  obtain ⟨rfl, K18, s18⟩ := hcut
  rename World => w18
  have hSS9 := Lib.hid (hSS.out kY w18 s18 (by omega) K18.bel)
  unfold RetSt at hSS9
  obtain ⟨z0', z1, z2, z3⟩ := hPa.out _ _ K18
  go_wp2_with fail
  refine hSS9.out.mono ?_; rintro e w19 ⟨t, k19, rfl, ht, s19, _, g19⟩
  have K19 := K18.stream (Y := fun _ => True) s18 g19 trivial (fun _ _ _ _ => trivial)
  clear K18 s18 g19 hSS hSS9 s19 z0' z1 z2 z3
  obtain ⟨z0', z1, z2, z3⟩ := hPa.out _ _ K19
  by_cases hpe : PE = 0
  rotate_left
  · have hd : (PE != 0) = true := by simpa using hpe
    have hd2 : (PE == PE) = true := by simp
    have hc := Lib.hid (hRE.out hpe t w19)
    clear hpe hRE hRd hRr hR1 hR2
    go_wp2_with fail
    refine hc.out.mono ?_; rintro e w20 ⟨rfl, B20⟩
    have hB20 := below_next K19.bel B20
    clear K19 hc B20 z0' z1 z2 z3
    go_wp2_with fail
    refine (heated_c _).mono ?_; rintro e wM ⟨rfl, BM⟩
    have hB := below_next hB20 BM
    go_wp2
    go_ret
    exact ⟨rfl, hB⟩
  have hd : (PE != 0) = false := by simpa using hpe
  have hRd1 := Lib.hid (hRd.out hpe t w19 (by omega) (hmx.below K19.bel))
  have hRr1 := Lib.hid (fun W (B : Below w.heap.size w W) => hRr.out hpe t W (by omega) (hmx.below B) (htab.below B) (hex.below B))
  clear hpe hRE hRd hRr
  go_wp2_with fail
  refine hRd1.out.mono ?_; rintro e w20 hrd
  obtain ⟨A9, n9, c9, i9, E9, l9, rfl, _, B20, _⟩ := hR1.out _ _ _ _ hrd
  have hrd' := Lib.hid hrd
  have K20 := K19.below B20
  clear hRd1 K19 B20 hrd hR1 z0' z1 z2 z3
  obtain ⟨z0', z1, z2, z3⟩ := hPa.out _ _ K20
  have hRr2 := Lib.hid (hRr1.out w20 K20.bel)
  clear hRr1
  go_wp2_with fail
  refine hRr2.out.mono ?_; rintro e w21 hrd2
  obtain ⟨A8, n8, c8, l8, rfl, q1, q2, B21⟩ := hR2.out _ _ _ _ _ _ _ _ _ _ _ hrd'.out hrd2
  have hB21 := below_next K20.bel B21
  have hEq := Lib.hid (equalSp_c A9 A8 n9 c9 n8 c8 l8 l8 w21 (q1.below B21) q2)
  rw [decide_eq_true (rfl : l8 = l8)] at hEq
  have b8 : (E9 == E9) = true := by simp
  have b9 : (i9 == i9) = true := by simp
  clear hRr2 hrd' hrd2 q1 q2 B21 K20 hR2 z0' z1 z2 z3
  go_wp2_with fail
  refine hEq.out.mono ?_; rintro e w22 ⟨rfl, q22, rfl⟩
  have hB22 := below_drewN hB21 q22
  clear hEq hB21
  go_wp2_with fail
  refine (heated_c _).mono ?_; rintro e wM ⟨rfl, BM⟩
  have hB := below_next hB22 BM
  go_wp2
  go_ret
  exact ⟨rfl, hB⟩
end Go.Proofs.YtklggnglaeagpaaGreatDoor
