/- DevicesAgree: the walk. -/
import Derived.Test.YtpepdkgkdbnakaaGreatDoorMergC
import Derived.Test.YtpepdkgkdbnakaaGreatDoorHalfC
import Derived.Test.YtpepdkgkdbnakaaGreatDoorPadK
import Derived.Test.YtpepdkgkdbnakaaGreatDoorClkM
import Derived.Test.YtpepdkgkdbnakaaGreatDoorDraws
import Derived.Test.YtpepdkgkdbnakaaGreatDoorSgR
import Derived.Test.YtpepdkgkdbnakaaGreatDoorReady
namespace Go.Proofs.YtpepdkgkdbnakaaGreatDoor
open Go.RowKit Go.Shelf Go.Lib Go.Sort
set_option linter.unusedVariables false

/-- the merge of the two halves is the whole, in either order -/
theorem mrgAB {ks : List (Sg × Int)} {l out : List Sg} {E : Int} (hl : l.length ≤ 40) (h0 : sigErr l = 0) (hk : ks.map Prod.fst = l) (h : MrgR (halfA ks) (halfB ks) E out) : E = 0 ∧ out = l := by
  subst hk
  have sa := sigErr_sub hl h0 (halfA_sub ks)
  have sb := sigErr_sub hl h0 (halfB_sub ks)
  have hs := (sigErr_sorted h0).2
  have hm := mrg_rest (sigErr_sorted sa).2 (b := halfB ks) (fun x hx y hy e => key_same hs ((halfA_sub ks).subset hy) ((halfB_sub ks).subset hx) e)
  rcases h with ⟨h1, _⟩ | ⟨_, h1, _⟩ | ⟨_, _, ⟨h1, _⟩ | ⟨p, s, h1, h2, h3⟩⟩
  · exact absurd sa h1
  · exact absurd sb h1
  · rw [hm] at h1; cases h1
  · rw [hm] at h1
    obtain rfl := Option.some.inj h1
    have e := merge_all hs h2.1 h2.2
    subst e
    rcases h3 with ⟨h3, _⟩ | ⟨_, h3, h4⟩
    · exact absurd h0 h3
    · exact ⟨h3, h4⟩
theorem mrgBA {ks : List (Sg × Int)} {l out : List Sg} {E : Int} (hl : l.length ≤ 40) (h0 : sigErr l = 0) (hk : ks.map Prod.fst = l) (h : MrgR (halfB ks) (halfA ks) E out) : E = 0 ∧ out = l := by
  subst hk
  have sa := sigErr_sub hl h0 (halfA_sub ks)
  have sb := sigErr_sub hl h0 (halfB_sub ks)
  have hs := (sigErr_sorted h0).2
  have hm := mrg_rest (sigErr_sorted sb).2 (b := halfA ks) (fun x hx y hy e => key_same hs ((halfB_sub ks).subset hy) ((halfA_sub ks).subset hx) e)
  rcases h with ⟨h1, _⟩ | ⟨_, h1, _⟩ | ⟨_, _, ⟨h1, _⟩ | ⟨p, s, h1, h2, h3⟩⟩
  · exact absurd sb h1
  · exact absurd sa h1
  · rw [hm] at h1; cases h1
  · rw [hm] at h1
    obtain rfl := Option.some.inj h1
    have e := merge_all' hs h2.1 h2.2
    subst e
    rcases h3 with ⟨h3, _⟩ | ⟨_, h3, h4⟩
    · exact absurd h0 h3
    · exact ⟨h3, h4⟩
theorem lksAB {ks : List (Sg × Int)} {l : List Sg} (hl : l.length ≤ 40) (h0 : sigErr l = 0) (hk : ks.map Prod.fst = l) : (if sigErr (halfA ks) ≠ 0 then sigErr (halfA ks) else sigErr (halfB ks)) = 0 ∧ (halfA ks).length + (restB (halfA ks) (halfB ks)).length = l.length := by
  subst hk
  have sa := sigErr_sub hl h0 (halfA_sub ks)
  have sb := sigErr_sub hl h0 (halfB_sub ks)
  have hs := (sigErr_sorted h0).2
  refine ⟨by rw [if_neg (by simpa using sa)]; exact sb, ?_⟩
  have hn : (ks.map Prod.fst).Nodup := hs.imp fun {x y} hxy e => by subst e; have := sgKey_zero.2 (⟨rfl, rfl⟩ : x.dev = x.dev ∧ x.no = x.no); omega
  rw [half_len ks hn, List.length_map]
theorem stGo_pos {cl : List Ck} : ∀ {l : List Sg}, HasS l → 1 ≤ (stGo cl l).length
  | [], h => by obtain ⟨x, hx, _⟩ := h; cases hx
  | x :: r, h => by
    unfold stGo
    split
    · simp
    · rename_i hk
      obtain ⟨y, hy, e⟩ := h
      rcases List.mem_cons.1 hy with rfl | hy
      · exact absurd e hk
      · exact stGo_pos ⟨y, hy, e⟩
theorem compactUpTo_pos (d : Array Int) : ∀ m, 1 ≤ m → 1 ≤ (Lib.compactUpTo d m).length
  | 0, h => by omega
  | 1, _ => by
    rw [Lib.compactUpTo_succ]
    have e : Lib.keeps d 0 = true := by simp [Lib.keeps]
    rw [e, if_pos rfl]
    simp
  | m + 2, _ => by
    have h := compactUpTo_pos d (m + 1) (by omega)
    rw [Lib.compactUpTo_succ, List.length_append]
    omega
theorem compact_pos {l : List Int} (h : 1 ≤ l.length) : 1 ≤ (Lib.compact l).length := compactUpTo_pos _ _ h
theorem startsV_pos {cl : List Ck} {l : List Sg} (h : HasS l) : 1 ≤ (startsV cl l).length := by
  unfold startsV
  apply compact_pos
  rw [List.length_mergeSort]
  exact stGo_pos h
theorem equalSg_same (A1 A2 : Option Addr) (n c m d : Nat) (l : List Sg) {w : World} (h1 : RSg w A1 n l) (h2 : RSg w A2 m l) :
    Calls Tryz.prog 88 #[.slice A1 n c, .slice A2 m d] w fun e w' => e = .returned (.bool true) ∧ Below w.heap.size w w' :=
  (equalSg_c A1 A2 n c m d l l w h1 h2).mono fun e w' ⟨he, q, hB⟩ => ⟨by rw [he]; simp, by rw [hB]; exact below_drewN (Below.refl _ _) _⟩
/-- what is carried -/
structure K52 (w : World) (A : Option Addr) (n : Nat) (l : List Sg) (Ac : Option Addr) (nc : Nat) (cl : List Ck) (A1 : Option Addr) (n1 : Nat) (a : List Sg) (A2 : Option Addr) (n2 : Nat) (b : List Sg) (wx : World) : Prop where
  li : RSg wx A n l
  cl_ : RCk wx Ac nc cl
  ha : RSg wx A1 n1 a
  hb : RSg wx A2 n2 b
  bel : Below w.heap.size w wx
theorem K52.below {w : World} {A : Option Addr} {n : Nat} {l : List Sg} {Ac : Option Addr} {nc : Nat} {cl : List Ck} {A1 : Option Addr} {n1 : Nat} {a : List Sg} {A2 : Option Addr} {n2 : Nat} {b : List Sg} {wx w' : World} (h : K52 w A n l Ac nc cl A1 n1 a A2 n2 b wx) (hb : Below wx.heap.size wx w') : K52 w A n l Ac nc cl A1 n1 a A2 n2 b w' := ⟨h.li.below hb, h.cl_.below hb, h.ha.below hb, h.hb.below hb, below_next h.bel hb⟩
set_option maxHeartbeats 6400000 in
set_option maxRecDepth 100000 in
theorem devicesAgree_walk (a0 : Option Addr) (len0 cap0 : Nat) (z0 : List Int) (w : World) (w0 : IsRow .i64 w a0 len0 cap0 z0) :
    Calls Tryz.prog 10 #[.slice a0 len0 cap0] w fun e w' => e = .returned (.bool true) ∧ Below w.heap.size w w' := by
  have hs := law_start w0
  clear w0
  generalize z0.take len0 = zs at *
  go_enter Tryz.func10, Tryz.ntmps10
  go_wp2_with fail
  have hs' : St (w.alloc (.cells #[.slice a0 len0 cap0, .int .i64 0] 25)) w.heap.size zs 0 := hs
  refine (rightSignalsH_c _ zs _ _ hs' (by omega)).mono ?_; rintro e w2 ⟨A, n, c, l, k2, rfl, hL2, hsg, hn18, s2, hk2, g2, hcpA, hst⟩
  have hB2 := (below_new w (.cells #[.slice a0 len0 cap0, .int .i64 0] 25)).trans (grown_below g2 (Nat.le_refl _) (by simp))
  have hl := Lib.hid hL2.len
  clear hs hs' g2 hcpA
  go_wp2_with fail
  refine (clocks_c _ zs k2 _ s2 (by omega)).mono ?_; rintro e w3 ⟨Ac, nc, cc, cl, k3, rfl, hC3, hnc, s3, hk3, g3⟩
  have hL3 := hL2.keep (T := 25) (by decide) (s2.keep g3)
  have hB3 := hB2.trans (grown_below g3 (Nat.le_refl _) hB2.size)
  have hz3 := g3.size
  have hz2 := hB2.size
  clear hL2 hB2 s2 g3
  have hst' := Lib.hid hst
  have hsg' := Lib.hid hsg
  clear hst hsg
  have hF1 := Lib.hid (fun W h => clocksFault_c Ac nc cc cl W h)
  have hbo := Lib.hid (fun h => bothErr_of (cl := cl) h hsg'.out)
  go_wp2_with fail
  refine (hF1.out _ hC3).mono ?_; rintro e w4 ⟨rfl, B4⟩
  replace hL3 := hL3.below B4
  replace hC3 := hC3.below B4
  replace s3 := s3.below B4
  replace hB3 := below_next hB3 B4
  clear B4 hF1
  generalize hCKE : clkErr cl = CKE at *
  have hCKE' := Lib.hid hCKE
  clear hCKE
  by_cases hC : CKE = 0
  rotate_left
  · have hd : (CKE != 0) = true := by simpa using hC
    clear hC
    go_wp2_with fail
    refine (ready_c _).mono ?_; rintro e w5 ⟨rfl, B5⟩
    have hfB := below_next hB3 B5
    go_wp2
    go_ret
    exact ⟨rfl, hfB⟩
  subst hC
  by_cases hn0 : n = 0
  · subst hn0
    go_wp2_with fail
    refine (ready_c _).mono ?_; rintro e w5 ⟨rfl, B5⟩
    have hfB := below_next hB3 B5
    go_wp2
    go_ret
    exact ⟨rfl, hfB⟩
  have hnn : ((n : Int) == 0) = false := by rw [beq_eq_false_iff_ne]; omega
  have hne : l ≠ [] := fun e => hn0 (by have := hl.out; rw [e] at this; simpa using this.symm)
  have hpos := Lib.hid (startsV_pos (cl := cl) (hst'.out.resolve_left hne))
  clear hne hst' hn0
  have hHC := Lib.hid (halfSignals_c A n c l w.heap.size zs k3 w4 hL3 s3 (by omega) (by omega))
  go_wp2_with fail
  refine hHC.out.mono ?_; rintro e w5 ⟨ks, A1, c1, A2, c2, rfl, hks, r1, r2, hcp1, hcp2, s5, g5, _, _, _, _, _⟩
  have hlA := (halfA_sub ks).length_le
  have hlB := (halfB_sub ks).length_le
  rw [hks, hl.out] at hlA hlB
  have hl40 : l.length ≤ 40 := by rw [hl.out]; omega
  have hAB := Lib.hid (fun E out h => mrgAB (E := E) (out := out) hl40 hsg'.out hks h)
  have hBA := Lib.hid (fun E out h => mrgBA (E := E) (out := out) hl40 hsg'.out hks h)
  obtain ⟨hk1, hk2⟩ := lksAB hl40 hsg'.out hks
  have hk1' := Lib.hid hk1
  rw [hl.out] at hk2
  have hk2' := Lib.hid hk2
  clear hk1 hk2 hks hl40 hHC
  have K : K52 w A n l Ac nc cl A1 (halfA ks).length (halfA ks) A2 (halfB ks).length (halfB ks) w5 :=
    ⟨hL3.keep (T := 25) (by decide) (s3.keep g5), hC3.keep (T := 25) (by decide) (s3.keep g5), r1, r2, hB3.trans (grown_below g5 (Nat.le_refl _) hB3.size)⟩
  have hbE : bothErr cl l = 0 := hbo.out (by first | rfl | trivial)
  have htE : ttE cl l 1 1 = 0 := by
    unfold ttE laneErr
    rw [if_neg (by simpa using hbE), if_neg (by omega), if_neg (by have := hpos.out; omega)]
  have hM1 := Lib.hid (fun W h1 h2 => merge_c A1 A2 (halfA ks).length c1 (halfB ks).length c2 (halfA ks) (halfB ks) W h1 h2 (by omega) (by omega))
  have hM2 := Lib.hid (fun W h1 h2 => merge_c A2 A1 (halfB ks).length c2 (halfA ks).length c1 (halfB ks) (halfA ks) W h1 h2 (by omega) (by omega))
  have hLk := Lib.hid (fun W h1 h2 => lacks_c A1 A2 (halfA ks).length c1 (halfB ks).length c2 (halfA ks) (halfB ks) W h1 h2 (by omega) (by omega))
  have hS := Lib.hid (fun W A' c' h1 h2 => show Calls Tryz.prog 89 #[.slice Ac nc cc, .slice A' n c'] W (RetSt2 W 0 (startsV cl l)) by
    have := starts20_c Ac nc cc cl A' n c' l W h1 h2
    rwa [hbE, if_pos rfl] at this)
  have hT := Lib.hid (fun W A' c' h1 h2 => show Calls Tryz.prog 91 #[.slice Ac nc cc, .slice A' n c', .int .i64 1, .int .i64 1] W (RetSt2 W 0 (touV cl l 1 1)) by
    have := touches26_c Ac nc cc cl A' n c' l 1 1 W h1 h2 (by omega)
    rwa [htE, if_pos rfl] at this)
  have hKB := fun wx (h : K52 w A n l Ac nc cl A1 (halfA ks).length (halfA ks) A2 (halfB ks).length (halfB ks) wx) => h.bel
  have hKl := fun wx (h : K52 w A n l Ac nc cl A1 (halfA ks).length (halfA ks) A2 (halfB ks).length (halfB ks) wx) => h.li
  have hKc := fun wx (h : K52 w A n l Ac nc cl A1 (halfA ks).length (halfA ks) A2 (halfB ks).length (halfB ks) wx) => h.cl_
  have hKa := fun wx (h : K52 w A n l Ac nc cl A1 (halfA ks).length (halfA ks) A2 (halfB ks).length (halfB ks) wx) => h.ha
  have hKb := fun wx (h : K52 w A n l Ac nc cl A1 (halfA ks).length (halfA ks) A2 (halfB ks).length (halfB ks) wx) => h.hb
  have hKd := fun wx w' (h : K52 w A n l Ac nc cl A1 (halfA ks).length (halfA ks) A2 (halfB ks).length (halfB ks) wx) (hb : Below wx.heap.size wx w') => h.below hb
  clear hL3 hC3 hB3 s3 s5 g5 r1 r2 hcp1 hcp2 hbo hbE htE hsg'
  generalize K52 w A n l Ac nc cl A1 (halfA ks).length (halfA ks) A2 (halfB ks).length (halfB ks) = KK at *
  generalize halfA ks = a at *
  generalize halfB ks = b at *
  generalize startsV cl l = SV at *
  generalize touV cl l 1 1 = TV at *
  have hSVp : ((SV.length : Int) == 0) = false := by rw [beq_eq_false_iff_ne]; have := hpos.out; omega
  go_wp2_with fail
  refine (hM1.out _ (hKa _ K) (hKb _ K)).mono ?_; rintro e w6 ⟨A6, n6, c6, o6, E6, rfl, r6, _, hm6, B6⟩
  obtain ⟨rfl, ho6⟩ := hAB.out _ _ hm6
  rw [ho6] at r6
  obtain rfl : n6 = n := r6.len.symm.trans hl.out
  replace K := hKd _ _ K B6
  clear B6 hm6 ho6 hM1
  go_wp2_with fail
  refine (hM2.out _ (hKb _ K) (hKa _ K)).mono ?_; rintro e w7 ⟨A7, n7, c7, o7, E7, rfl, r7, _, hm7, B7⟩
  obtain ⟨rfl, ho7⟩ := hBA.out _ _ hm7
  rw [ho7] at r7
  obtain rfl : n7 = n6 := r7.len.symm.trans hl.out
  replace K := hKd _ _ K B7
  replace r6 := r6.below B7
  clear B7 hm7 ho7 hM2
  go_wp2_with fail
  refine (hLk.out _ (hKa _ K) (hKb _ K)).mono ?_; rintro e w8 ⟨A8, n8, c8, o8, E8, rfl, r8, _, hE8, ho8, B8⟩
  obtain rfl : E8 = 0 := hE8.trans hk1'.out
  rw [if_pos rfl] at ho8
  rw [ho8] at r8
  have hn8 : a.length + n8 = n7 := by have h1 := r8.len; have h2 := hk2'.out; omega
  have hw8 : IntKind.i64.wrap ((a.length : Int) + (n8 : Int)) = (n7 : Int) := by rw [IntWalk.i64_in _ (by omega)]; omega
  replace K := hKd _ _ K B8
  replace r6 := r6.below B8
  replace r7 := r7.below B8
  clear B8 hE8 ho8 hLk r8 hn8 hk1' hk2'
  go_wp2_with fail
  refine (equalSg_same A6 A7 n7 c6 n7 c7 l r6 r7).mono ?_; rintro e w9 ⟨rfl, B9⟩
  replace K := hKd _ _ K B9
  replace r6 := r6.below B9
  clear B9 r7
  go_wp2_with fail
  refine (equalSg_same A6 A n7 c6 n7 c l r6 (hKl _ K)).mono ?_; rintro e w10 ⟨rfl, B10⟩
  replace K := hKd _ _ K B10
  replace r6 := r6.below B10
  clear B10
  go_wp2_with fail
  refine (hS.out _ A6 c6 (hKc _ K) r6).mono ?_; rintro e w11 ⟨A11, c11, rfl, r11, B11⟩
  replace K := hKd _ _ K B11
  replace r6 := r6.below B11
  clear B11 hw8
  go_wp2_with fail
  refine (hS.out _ A c (hKc _ K) (hKl _ K)).mono ?_; rintro e w12 ⟨A12, c12, rfl, r12, B12⟩
  replace K := hKd _ _ K B12
  replace r6 := r6.below B12
  replace r11 := r11.below B12
  clear B12 hS
  go_wp2_with fail
  refine (equalI_same A11 A12 _ c11 _ c12 SV r11 r12).mono ?_; rintro e w13 ⟨rfl, B13⟩
  replace K := hKd _ _ K B13
  replace r6 := r6.below B13
  clear B13 r11 r12
  go_wp2_with fail
  refine (hT.out _ A6 c6 (hKc _ K) r6).mono ?_; rintro e w14 ⟨A14, c14, rfl, r14, B14⟩
  replace K := hKd _ _ K B14
  clear B14 r6
  go_wp2_with fail
  refine (hT.out _ A c (hKc _ K) (hKl _ K)).mono ?_; rintro e w15 ⟨A15, c15, rfl, r15, B15⟩
  replace K := hKd _ _ K B15
  replace r14 := r14.below B15
  clear B15 hT
  go_wp2_with fail
  refine (equalI_same A14 A15 _ c14 _ c15 TV r14 r15).mono ?_; rintro e w16 ⟨rfl, B16⟩
  replace K := hKd _ _ K B16
  clear B16 r14 r15
  go_wp2_with fail
  refine (ready_c _).mono ?_; rintro e w17 ⟨rfl, B17⟩
  have hfB := below_next (hKB _ K) B17
  go_wp2
  go_ret
  exact ⟨rfl, hfB⟩
end Go.Proofs.YtpepdkgkdbnakaaGreatDoor
