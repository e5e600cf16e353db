/- tumbref1.DecidedOf: the new times, the comparison, the sort. -/
import Derived.Test.YtjafcnblgeibpaaGreatDoorDecR
import Derived.Test.YtjafcnblgeibpaaGreatDoorOrdC
namespace Go.Proofs.YtjafcnblgeibpaaGreatDoor
open Go.RowKit Go.Shelf Go.Lib Go.Sort
set_option linter.unusedVariables false

/-- the new time of somebody; who has none is behind all -/
def agV : List Sd → ByteArray → Int
  | [], _ => 360001
  | x :: r, s => if x.who = s ∧ 0 < x.time then x.time else agV r s
theorem agV_at {off : List Sd} {k : Nat} {x : Sd} {s : ByteArray} (h : off[k]? = some x) : agV (off.drop k) s = if x.who = s ∧ 0 < x.time then x.time else agV (off.drop (k + 1)) s := by rw [drop_at h]; rfl
theorem str_neO {a b : ByteArray} (h : a ≠ b) : (a.toList == b.toList) = false := by
  rw [beq_eq_false_iff_ne, ByteArray.toList_eq, ByteArray.toList_eq]
  intro e
  exact h (by cases a; cases b; congr 1; exact Array.toList_inj.mp e)
set_option maxRecDepth 100000 in
theorem again_c (p5 : Nat) (O : Option Addr) (m d : Nat) (off : List Sd) (s : ByteArray) (w : World) (h : RSd w O m off) (h1 : w.heap[p5]? = some (.cells #[.slice O m d] 29 (0, 0))) (hm : m ≤ 1000) :
    Calls Tryz.prog 101 #[.string s, .pointer (some ⟨p5, 0, none⟩)] w fun e w' => e = .returned (.int .i64 (agV off s)) ∧ Below w.heap.size w w' ∧ w.drawn ≤ w'.drawn := by
  have hR := Lib.hid (fun W B => h.below (w' := W) B)
  have hl := Lib.hid h.len
  have hA := Lib.hid (fun k x (hx : off[k]? = some x) => agV_at (s := s) hx)
  have hV := Lib.hid (show agV (off.drop 0) s = agV off s by rw [List.drop_zero])
  generalize agV off s = V at *
  have a0 := (blk_facts h1).1 0
  clear h h1
  go_enter Tryz.func101, Tryz.ntmps101
  go_wp2_with fail
  go_loopw [8] (fun iv wr => ∃ k : Nat, k ≤ m ∧ iv = .int .i64 k ∧ Below w.heap.size w wr ∧ w.drawn ≤ wr.drawn ∧ Hid (agV (off.drop k) s = V)) (fun iv _ => m - (intOf iv).toNat)
  case atStart => exact ⟨0, Nat.zero_le _, rfl, Below.refl _ _, Nat.le_refl _, hV⟩
  case round =>
    clear hV a0
    rename World => wr
    obtain ⟨k, hk, rfl, hB, hD, hG⟩ := hrel
    by_cases hlt : k < m
    · obtain ⟨b, of, x, rfl, hbl, hx, c0, c1⟩ := RSd_at2 (hR.out _ hB) hlt
      have hG2 := hG.out
      rw [hA.out k x hx] at hG2
      obtain ⟨who, time⟩ := x
      dsimp only at *
      have hn5 := heap_alloc_new wr (.cells #[.string who, .int .i64 time] 86)
      have x0 := (blk_facts hn5).1 0
      have x1 := (blk_facts hn5).1 1
      have hB5 := below_next hB (below_new wr (.cells #[.string who, .int .i64 time] 86))
      have hD5 : w.drawn ≤ (wr.alloc (.cells #[.string who, .int .i64 time] 86)).drawn := hD
      clear hx hG hn5 hB hD
      by_cases hw : who = s
      · have hs : (who.toList == s.toList) = true := by rw [hw]; exact beq_self_eq_true _
        by_cases ht : 0 < time
        · rw [if_pos ⟨hw, ht⟩] at hG2
          subst hG2
          clear hw
          go_wp2
          go_ret
          exact ⟨rfl, hB5, hD5⟩
        · rw [if_neg (fun h => ht h.2)] at hG2
          have hG3 := Lib.hid hG2
          clear hw hG2
          go_wp2
          go_roundw
          case rel => exact ⟨k + 1, by omega, by go_num, hB5, hD5, hG3⟩
          case measure => simp [intOf]; omega
      · have hs := str_neO hw
        rw [if_neg (fun h => hw h.1)] at hG2
        have hG3 := Lib.hid hG2
        clear hw hG2
        go_wp2
        go_roundw
        case rel => exact ⟨k + 1, by omega, by go_num, hB5, hD5, hG3⟩
        case measure => simp [intOf]; omega
    · obtain rfl : k = m := by omega
      have hfin : V = 360001 := by rw [← hG.out, drop_end (by rw [hl.out]; exact Nat.le_refl _)]; rfl
      subst hfin
      clear hG
      go_wp2
      go_ret
      exact ⟨rfl, hB, hD⟩
/-- whether a name is in one of some rows of names -/
def inG (G : List (List ByteArray)) (s : ByteArray) : Bool := G.any fun g => Lib.containsS g s
theorem grC_c (p4 : Nat) (who : ByteArray) (time : Int) (A : Option Addr) (n c : Nat) (N : List ByteArray) (w : World) (h : RS 9 w A n N) (h1 : w.heap[p4]? = some (.cells #[.string who, .int .i64 time] 86 (0, 0))) :
    Calls Tryz.prog 105 #[.slice A n c, .pointer (some ⟨p4, 0, none⟩)] w fun e w' => e = .returned (.bool (Lib.containsS N who)) ∧ w = w' := by
  have hC := Lib.hid (containsN_c A n c N who w h)
  generalize Lib.containsS N who = R at *
  have a0 := (blk_facts h1).1 0
  clear h h1
  go_enter Tryz.func105, Tryz.ntmps105
  go_wp2_with fail
  refine hC.out.mono ?_; rintro e w1 ⟨rfl, rfl⟩
  go_wp2
  go_ret
  exact ⟨rfl, rfl⟩
set_option maxRecDepth 100000 in
theorem idxGr_c (p4 : Nat) (who : ByteArray) (time : Int) (A : Option Addr) (n c : Nat) (L : List Nx) (w : World) (h : RNx w A n L) (h1 : w.heap[p4]? = some (.cells #[.string who, .int .i64 time] 86 (0, 0))) :
    Calls Tryz.prog 161 #[.slice A n c, .func (.func 105) #[] #[.pointer (some ⟨p4, 0, none⟩)]] w fun e w' => ∃ i : Int, e = .returned (.int .i64 i) ∧ decide (0 ≤ i) = inG (L.map Nx.ids) who ∧ w = w' := by
  have hl := Lib.hid h.1.len
  have hbd := h.1.bd
  have hR := Lib.hid h
  have hP := Lib.hid (fun A n c N (h : RS 9 w A n N) => grC_c p4 who time A n c N w h h1)
  clear h h1
  go_enter Tryz.func161, Tryz.ntmps161
  go_wp2_with fail
  go_loop [5, 8] (fun _ i => ∃ k : Nat, k ≤ n ∧ i = .int .i64 k ∧ Hid (∀ x ∈ L.take k, Lib.containsS x.ids who = false)) (fun _ i => n - (intOf i).toNat)
  case atStart => exact ⟨0, Nat.zero_le _, rfl, Lib.hid (fun x hx => by simp at hx)⟩
  case round =>
    obtain ⟨k, hk, rfl, hF⟩ := hrel
    by_cases hlt : k < n
    · obtain ⟨b, off, x, rfl, hbl, hx, c0, rx, _⟩ := RNx_at hR.out hlt
      have hx' := Lib.hid hx
      have hzx := Lib.hid (fun c => hP.out x.A x.ids.length c x.ids rx)
      obtain ⟨pb, hpb⟩ : ∃ pb, Lib.containsS x.ids who = pb := ⟨_, rfl⟩
      rw [hpb] at hzx
      have hpb' := Lib.hid hpb
      obtain ⟨A9, c9, ids⟩ := x
      dsimp only at *
      clear hx hpb rx
      cases pb
      · have hF2 := Lib.hid (show ∀ x ∈ L.take (k + 1), Lib.containsS x.ids who = false from fun x hx => by
          rw [List.take_add_one, hx'.out] at hx
          rcases List.mem_append.1 hx with hx | hx
          · exact hF.out x hx
          · simp at hx; subst hx; exact hpb'.out)
        clear hF hx' hpb'
        go_wp2_with fail
        refine (hzx.out _).mono ?_; rintro e w1 ⟨rfl, rfl⟩
        go_wp2
        go_round
        case rel => exact ⟨k + 1, by omega, by go_num, hF2⟩
        case measure => simp [intOf]; omega
      · have hT := Lib.hid (show decide ((0 : Int) ≤ (k : Int)) = inG (L.map Nx.ids) who by
          have h9 : inG (L.map Nx.ids) who = true := by
            unfold inG
            rw [List.any_eq_true]
            exact ⟨ids, List.mem_map_of_mem (f := Nx.ids) (List.mem_of_getElem? hx'.out), hpb'.out⟩
          rw [h9]; simp)
        clear hF hx' hpb'
        go_wp2_with fail
        refine (hzx.out _).mono ?_; rintro e w1 ⟨rfl, rfl⟩
        go_wp2
        go_ret
        exact ⟨_, rfl, hT.out, rfl⟩
    · obtain rfl : k = n := by omega
      have hT := Lib.hid (show decide ((0 : Int) ≤ -1) = inG (L.map Nx.ids) who by
        have h9 : inG (L.map Nx.ids) who = false := by
          unfold inG
          rw [List.any_eq_false]
          intro g hg
          obtain ⟨x, hx, rfl⟩ := List.mem_map.1 hg
          have := hF.out x (by rw [List.take_of_length_le (by rw [hl.out]; exact Nat.le_refl _)]; exact hx)
          simp [this]
        rw [h9]; rfl)
      clear hF
      go_wp2
      go_ret
      exact ⟨_, rfl, hT.out, rfl⟩
theorem contGr_c (p4 : Nat) (who : ByteArray) (time : Int) (A : Option Addr) (n c : Nat) (L : List Nx) (w : World) (h : RNx w A n L) (h1 : w.heap[p4]? = some (.cells #[.string who, .int .i64 time] 86 (0, 0))) :
    Calls Tryz.prog 104 #[.slice A n c, .func (.func 105) #[] #[.pointer (some ⟨p4, 0, none⟩)]] w fun e w' => e = .returned (.bool (inG (L.map Nx.ids) who)) ∧ w = w' := by
  have hI := Lib.hid (idxGr_c p4 who time A n c L w h h1)
  obtain ⟨bb, hbb⟩ : ∃ bb, inG (L.map Nx.ids) who = bb := ⟨_, rfl⟩
  rw [hbb] at hI
  rw [hbb]
  clear h h1 hbb
  go_enter Tryz.func104, Tryz.ntmps104
  go_wp2_with fail
  refine hI.out.mono ?_; rintro e w1 ⟨i, rfl, hi, rfl⟩
  subst hi
  go_wp2
  go_ret
  exact ⟨rfl, rfl⟩
/-- the order of a swim-off in the document -/
def rfCf (G : List (List ByteArray)) (off : List Sd) (x y : Sd) : Int := if Lib.compareInt x.time y.time ≠ 0 then Lib.compareInt x.time y.time else if inG G x.who = true then Lib.compareInt (agV off x.who) (agV off y.who) else 0
/-- what the comparison leans on -/
structure OcK (p5 p8 p9 : Nat) (O : Option Addr) (m d : Nat) (off : List Sd) (A : Option Addr) (n c : Nat) (L : List Nx) (w : World) : Prop where
  ro : RSd w O m off
  h5 : w.heap[p5]? = some (.cells #[.slice O m d] 29 (0, 0))
  rl : RNx w A n L
  h8 : w.heap[p8]? = some (.cells #[.slice A n c] 39 (0, 0))
  h9 : w.heap[p9]? = some (.cells #[.func (.func 101) #[] #[.pointer (some ⟨p5, 0, none⟩)]] 137 (0, 0))
theorem OcK.below {p5 p8 p9 : Nat} {O : Option Addr} {m d : Nat} {off : List Sd} {A : Option Addr} {n c : Nat} {L : List Nx} {w w' : World} (h : OcK p5 p8 p9 O m d off A n c L w) (B : Below w.heap.size w w') : OcK p5 p8 p9 O m d off A n c L w' := ⟨h.ro.below B, blk_below h.h5 B, h.rl.below B, blk_below h.h8 B, blk_below h.h9 B⟩
set_option maxHeartbeats 1600000 in
set_option maxRecDepth 100000 in
theorem ocC_c (p5 p8 p9 : Nat) (O : Option Addr) (m d : Nat) (off : List Sd) (A : Option Addr) (n c : Nat) (L : List Nx) (x y : Sd) (W : World) (h : OcK p5 p8 p9 O m d off A n c L W) (hm : m ≤ 1000) :
    Calls Tryz.prog 102 (#[.agg (sdE x).toArray, .agg (sdE y).toArray] ++ #[.pointer (some ⟨p8, 0, none⟩), .pointer (some ⟨p9, 0, none⟩)]) W fun e w' => e = .returned (.int .i64 (rfCf (L.map Nx.ids) off x y)) ∧ Below W.heap.size W w' ∧ W.drawn ≤ w'.drawn := by
  have hV0 := Lib.hid (fun (h : Lib.compareInt x.time y.time ≠ 0) => show rfCf (L.map Nx.ids) off x y = Lib.compareInt x.time y.time from if_pos h)
  have hV1 := Lib.hid (fun (h : Lib.compareInt x.time y.time = 0) => show rfCf (L.map Nx.ids) off x y = if inG (L.map Nx.ids) x.who = true then Lib.compareInt (agV off x.who) (agV off y.who) else 0 from if_neg (by simpa using h))
  obtain ⟨xw, xt⟩ := x
  obtain ⟨yw, yt⟩ := y
  dsimp only [sdE] at *
  have hbx := blk_alloc (heap_alloc_new W (.cells #[.string xw, .int .i64 xt] 86)) (.cells #[.string yw, .int .i64 yt] 86)
  have hby := heap_alloc_new (W.alloc (.cells #[.string xw, .int .i64 xt] 86)) (.cells #[.string yw, .int .i64 yt] 86)
  rw [alloc_size] at hby
  have hB2 := (below_new W (.cells #[.string xw, .int .i64 xt] 86)).trans ((below_new (W.alloc (.cells #[.string xw, .int .i64 xt] 86)) (.cells #[.string yw, .int .i64 yt] 86)).mono (by simp))
  have hD2 : W.drawn ≤ ((W.alloc (.cells #[.string xw, .int .i64 xt] 86)).alloc (.cells #[.string yw, .int .i64 yt] 86)).drawn := Nat.le_refl _
  have K := h.below hB2
  have hC := Lib.hid (fun W => show Calls Tryz.prog 103 #[.int .i64 xt, .int .i64 yt] W fun e w' => e = .returned (.int .i64 (Lib.compareInt xt yt)) ∧ W = w' from (Tryz.cmp_Compare_int xt yt W).mono fun _ _ ⟨h1, h2⟩ => ⟨h1, h2.symm⟩)
  have hG := Lib.hid (fun W (h : OcK p5 p8 p9 O m d off A n c L W) h1 => contGr_c W.heap.size xw xt A n c L W h.rl h1)
  have hGr := Lib.hid (fun (p4 : Nat) W (h : OcK p5 p8 p9 O m d off A n c L W) h1 => contGr_c p4 xw xt A n c L W h.rl h1)
  have hAx := Lib.hid (fun W (h : OcK p5 p8 p9 O m d off A n c L W) => again_c p5 O m d off xw W h.ro h.h5 hm)
  have hAy := Lib.hid (fun W (h : OcK p5 p8 p9 O m d off A n c L W) => again_c p5 O m d off yw W h.ro h.h5 hm)
  have hKb := Lib.hid (fun w w' (h : OcK p5 p8 p9 O m d off A n c L w) (B : Below w.heap.size w w') => h.below B)
  have hKc := Lib.hid (fun w (h : OcK p5 p8 p9 O m d off A n c L w) => show w.cell? ⟨p8, 0, none⟩ = some (.slice A n c) ∧ w.cell? ⟨p9, 0, none⟩ = some (.func (.func 101) #[] #[.pointer (some ⟨p5, 0, none⟩)]) from ⟨(blk_facts h.h8).1 0, (blk_facts h.h9).1 0⟩)
  generalize rfCf (L.map Nx.ids) off ⟨xw, xt⟩ ⟨yw, yt⟩ = V at *
  generalize inG (L.map Nx.ids) xw = IG at *
  generalize agV off xw = gx at *
  generalize agV off yw = gy at *
  generalize OcK p5 p8 p9 O m d off A n c L = KK at *
  have z9 := (blk_facts hbx).1 1
  have z10 := (blk_facts hby).1 1
  clear h hG
  generalize hcm : Lib.compareInt xt yt = u at *
  clear hcm
  by_cases hu : u = 0
  rotate_left
  · obtain rfl := hV0.out hu
    have hb : (V != 0) = true := by simpa using hu
    clear hV0 hV1 hu
    go_enter Tryz.func102, Tryz.ntmps102
    go_wp2_with fail
    refine (hC.out _).mono ?_; rintro e w' ⟨rfl, rfl⟩
    go_wp2
    go_ret
    exact ⟨rfl, hB2, hD2⟩
  · have hV := Lib.hid (hV1.out hu)
    subst hu
    clear hV0 hV1
    obtain ⟨k8, k9⟩ := hKc.out _ K
    have hGc := Lib.hid (hGr.out W.heap.size _ K hbx)
    cases IG
    · obtain rfl : V = 0 := by rw [hV.out]; rfl
      clear hV hAx hAy hGr
      go_enter Tryz.func102, Tryz.ntmps102
      go_wp2_with fail
      refine (hC.out _).mono ?_; rintro e w' ⟨rfl, rfl⟩
      go_wp2_with fail
      refine hGc.out.mono ?_; rintro e w' ⟨rfl, rfl⟩
      go_wp2
      go_ret
      exact ⟨rfl, hB2, hD2⟩
    · have hVg : V = Lib.compareInt gx gy := by rw [hV.out, if_pos rfl]
      have hC2 := Lib.hid (fun W => show Calls Tryz.prog 103 #[.int .i64 gx, .int .i64 gy] W fun e w' => e = .returned (.int .i64 V) ∧ W = w' from (Tryz.cmp_Compare_int gx gy W).mono fun _ _ ⟨h1, h2⟩ => ⟨by rw [h1, hVg], h2.symm⟩)
      clear hV hVg hGr
      have z90 := (blk_facts hbx).1 0
      have z100 := (blk_facts hby).1 0
      go_enter Tryz.func102, Tryz.ntmps102
      go_wp2_with fail
      refine (hC.out _).mono ?_; rintro e w' ⟨rfl, rfl⟩
      go_wp2_with fail
      refine hGc.out.mono ?_; rintro e w' ⟨rfl, rfl⟩
      go_wp2_with fail
      generalize (W.alloc (.cells #[.string xw, .int .i64 xt] 86)).alloc (.cells #[.string yw, .int .i64 yt] 86) = w5 at *
      generalize hbx' : W.heap.size = bx at *
      have hd5 := below_drewN (Below.refl w5.heap.size w5) 1
      have K5d : KK w5.drew := hKb.out _ _ K hd5
      have hbx5 := blk_below hbx hd5
      have hby5 := blk_below hby hd5
      have hB5d : Below W.heap.size W w5.drew := below_next (w0 := W) (by rw [hbx']; exact hB2) hd5
      have hD5d : W.drawn ≤ w5.drew.drawn := Nat.le_trans hD2 (Nat.le_succ _)
      clear hd5 hbx hby hB2 hD2 hC
      go_region_held3 (fun w' => w'.cell? ⟨bx, 0, none⟩ = some (.string xw) ∧ w'.cell? ⟨bx + 1, 0, none⟩ = some (.string yw) ∧ w'.cell? ⟨p9, 0, none⟩ = some (.func (.func 101) #[] #[.pointer (some ⟨p5, 0, none⟩)]))
        (first | go_keep | with_reducible exact ⟨s70, s71, s72⟩ | with_reducible exact ⟨s60, s61, s62⟩)
        (first
          | (go_at_call 101; have K6' := K6; refine (hAy.out _ K6).mono ?_; rintro e w7 ⟨rfl, B7, D7⟩; have K7 := hKb.out _ _ K6 B7; have s70 := (blk_facts (blk_below hbx6 B7)).1 0; have s71 := (blk_facts (blk_below hby6 B7)).1 0; have s72 := (hKc.out _ K7).2; have hB7 := below_next hB6 B7; have hD7 := Nat.le_trans hD6 D7)
          | (go_at_call 101; refine (hAx.out _ K5d).mono ?_; rintro e w6 ⟨rfl, B6, D6⟩; have K6 := hKb.out _ _ K5d B6; have hbx6 := blk_below hbx5 B6; have hby6 := blk_below hby5 B6; have s60 := (blk_facts hbx6).1 0; have s61 := (blk_facts hby6).1 0; have s62 := (hKc.out _ K6).2; have hB6 := below_next hB5d B6; have hD6 := Nat.le_trans hD5d D6)
          | (go_at_call 103; refine (hC2.out _).mono ?_; rintro e w' ⟨rfl, rfl⟩))
      clear s60 s61 s62 s70 s71 s72 hbx5 hby5 hbx6 hby6 K5d K6 K7 hB5d hB6 hD5d hD6 B6 B7 D6 D7 z9 z10 z90 z100 k8 k9
      go_wp2
      go_ret
      exact ⟨rfl, hB7, hD7⟩
theorem grown_below_own {a w : World} {row : Option Nat} {B : Nat} (h : a.grownBy w row) (hr : ∀ i, row = some i → B ≤ i) (hB : B ≤ a.heap.size) : Below B a w := ⟨h.os, h.tape, h.output, h.size, fun i hi => h.block i (by omega) (fun e => by have := hr i e.symm; omega)⟩
theorem OcK.sort {p5 p8 p9 : Nat} {O : Option Addr} {m d : Nat} {off : List Sd} {A : Option Addr} {n c : Nat} {L : List Nx} {w w' : World} (h : OcK p5 p8 p9 O m d off A n c L w) (hk : Keep 86 w w') {gb : Nat} (hg : w.grownBy w' (some gb)) (h5 : p5 ≠ gb) (h8 : p8 ≠ gb) (h9 : p9 ≠ gb) (hro : RSd w' O m off) : OcK p5 p8 p9 O m d off A n c L w' :=
  ⟨hro, blk_grown h.h5 hg (fun e => h5 (Option.some.inj e)), ⟨h.rl.1.keep (T := 86) (by decide) hk, fun x hx => ⟨(h.rl.2 x hx).1.keep (T := 86) (by decide) hk, (h.rl.2 x hx).2⟩⟩, blk_grown h.h8 hg (fun e => h8 (Option.some.inj e)), blk_grown h.h9 hg (fun e => h9 (Option.some.inj e))⟩
/-- who swims in which order, as the document has it -/
def refV (f : Fl) (off l : List Sd) : List Sd := insL (ltOf (rfCf (offV f (finL l)) off)) (finL l)
theorem ocSort_c (p5 p8 p9 : Nat) (O : Option Addr) (m d : Nat) (off : List Sd) (A : Option Addr) (n c : Nat) (L : List Nx) (base q : Nat) (u : Value) (F : List Sd) (w : World) (hown : w.ownsRow base 86 2 u q (F.flatMap sdE)) (hq : q ≤ 19) (hm : m ≤ 1000) (K : OcK p5 p8 p9 O m d off A n c L w) (hne : ∀ i, u.ownBlock = some i → p5 ≠ i ∧ p8 ≠ i ∧ p9 ≠ i) (hro : ∀ W, w.grownBy W u.ownBlock → RSd W O m off) :
    Calls Tryz.prog 90 #[u, .func (.func 102) #[] #[.pointer (some ⟨p8, 0, none⟩), .pointer (some ⟨p9, 0, none⟩)]] w fun e w' => e = .returned (.tuple #[]) ∧ w'.ownsRow base 86 2 u q ((insL (ltOf (rfCf (L.map Nx.ids) off)) F).flatMap sdE) ∧ w.grownBy w' u.ownBlock := by
  obtain ⟨A2, c2, rfl⟩ := own_shape hown
  have hlen := own_len sdE_len (by decide) hown
  rcases Nat.eq_zero_or_pos q with h0 | hp
  · subst h0
    have hl : F = [] := List.eq_nil_of_length_eq_zero hlen
    subst hl
    refine (sdSort0_c A2 c2 _ w).mono ?_
    rintro e w' ⟨rfl, rfl⟩
    exact ⟨rfl, by rw [insL_nil]; exact hown, grown_refl _ _⟩
  obtain ⟨gb, rfl, hgb⟩ := own_someN hown hp
  have eg : ∀ args w, (callFunc 102 args).run Tryz.prog w = .ok (.enter 102 args) w := enters_of Tryz.func102 (by kernel_rfl) rfl
  obtain ⟨h5, h8, h9⟩ := hne gb rfl
  refine (sdSort_c sdE sdE_len (fun x v hv => by simp [sdE] at hv; rcases hv with rfl | rfl <;> rfl) (rfCf (L.map Nx.ids) off) 102 #[.pointer (some ⟨p8, 0, none⟩), .pointer (some ⟨p9, 0, none⟩)] eg base gb q c2 F w (fun mm os dk hdk x y => ?_) hown hq).mono ?_
  · obtain ⟨K9, rfl⟩ : ∃ K9 : List Sd, dk = K9.toArray := ⟨dk.toList, by simp⟩
    have hg := (own_sortedK sdE 2 sdE_len (by decide) hown (l' := K9) (by simpa using hdk) mm os).2
    exact (ocC_c p5 p8 p9 O m d off A n c L x y _ (K.sort (keep_ownN hown hg) hg h5 h8 h9 (hro _ hg)) hm).mono fun _ _ ⟨he, hB, hD⟩ => ⟨he, grow_of hB hD⟩
  · rintro e w' ⟨rfl, ho, hg⟩
    exact ⟨rfl, ho, hg⟩
set_option maxHeartbeats 3200000 in
set_option maxRecDepth 100000 in
theorem decidedOf_c (f : Fl) (hf : FlOk f) (A O : Option Addr) (n c m d : Nat) (l off : List Sd) (w : World) (h : RSd w A n l) (hO : RSd w O m off) (hn : n ≤ 19) (hm : m ≤ 1000) (h0 : seedErr l = 0) :
    Calls Tryz.prog 27 #[f.val, .slice A n c, .slice O m d] w fun e w' => ∃ A' n' c', e = .returned (.slice A' n' c') ∧ RPc w' A' n' (plc f (refV f off l) 0 (refV f off l)) ∧ Below w.heap.size w w' := by
  obtain ⟨_, hso⟩ := seedErr_ok h0
  have hFi := Lib.hid (fun W h => finishedRef_c A n c l W h hn (fun x hx => (hso x hx).2))
  have hSO := Lib.hid (fun W h => swimOffOf_c f hf A n c l W h hn h0)
  have hPl := Lib.hid (fun A2 n2 c2 L W h h2 => placed_c f hf A2 n2 c2 L W h h2)
  have hRV := Lib.hid (show refV f off l = insL (ltOf (rfCf (offV f (finL l)) off)) (finL l) from rfl)
  have hFn := Lib.hid (finL_len l)
  have hln := Lib.hid h.len
  have hR := Lib.hid (fun W B => h.below (w' := W) B)
  have hRO := Lib.hid (fun W B => hO.below (w' := W) B)
  have hB0 := below_next (below_new w (.cells f.cells 27)) (below_new (w.alloc (.cells f.cells 27)) (.cells #[.slice O m d] 29))
  have hF0 : FinB w.heap.size f ((w.alloc (.cells f.cells 27)).alloc (.cells #[.slice O m d] 29)) := blk_alloc (heap_alloc_new w _) _
  have h50 := heap_alloc_new (w.alloc (.cells f.cells 27)) (.cells #[.slice O m d] 29)
  rw [alloc_size] at h50
  have hsz0 : ((w.alloc (.cells f.cells 27)).alloc (.cells #[.slice O m d] 29)).heap.size = w.heap.size + 1 + 1 := by simp
  have hFk := Lib.hid (fun a v (h : FinB w.heap.size f a) B => FinB.keep a v h B)
  have hFa := Lib.hid (fun v (h : FinB w.heap.size f v) => h.at_)
  have hFg := Lib.hid (fun (a v : World) (g : Option Nat) (h : FinB w.heap.size f a) (hg : a.grownBy v g) (hne : some w.heap.size ≠ g) => show FinB w.heap.size f v from blk_grown h hg hne)
  clear h hO h0 hso
  generalize refV f off l = RV at *
  generalize offV f (finL l) = OV at *
  generalize finL l = F at *
  obtain ⟨sz, mn, rs⟩ := f
  dsimp only [Fl.val, Fl.cells] at *
  generalize FinB w.heap.size ⟨sz, mn, rs⟩ = FB at *
  go_enter Tryz.func27, Tryz.ntmps27
  go_wp2_with fail
  refine (hFi.out _ (hR.out _ hB0)).mono ?_; rintro e w3 ⟨A2, n2, c2, rfl, ho2, hn2, B3⟩
  have hB3 := below_next hB0 B3
  have hF3 := hFk.out _ _ hF0 B3
  have h53 := blk_below h50 B3
  have hl2 := own_len sdE_len (by decide) ho2
  obtain ⟨y0, y1, y2⟩ := hFa.out _ hF3
  rw [hsz0] at ho2
  clear hB0 hF0 h50 B3 hFi
  go_wp2_with fail
  refine (hSO.out _ (hR.out _ hB3)).mono ?_; rintro e w4 ⟨u, rfl, A4, c4, L, rfl, hL, _, hLi, B4⟩
  have hB4 := below_next hB3 B4
  have hF4 := hFk.out _ _ hF3 B4
  have h54 := blk_below h53 B4
  have ho4 := own_below ho2 B4
  have hlt4 := ho4.lt
  clear hB3 hF3 h53 B4 ho2 hSO y0 y1 y2
  have n8 := heap_alloc_new w4 (.cells #[.slice A4 L.length c4] 39)
  have n8' := blk_alloc n8 (.cells #[.func (.func 101) #[] #[.pointer (some ⟨w.heap.size + 1, 0, none⟩)]] 137)
  have n9 := heap_alloc_new (w4.alloc (.cells #[.slice A4 L.length c4] 39)) (.cells #[.func (.func 101) #[] #[.pointer (some ⟨w.heap.size + 1, 0, none⟩)]] 137)
  rw [alloc_size] at n9
  have hB6 := below_next (below_new w4 (.cells #[.slice A4 L.length c4] 39)) (below_new (w4.alloc (.cells #[.slice A4 L.length c4] 39)) (.cells #[.func (.func 101) #[] #[.pointer (some ⟨w.heap.size + 1, 0, none⟩)]] 137))
  have K6 : OcK (w.heap.size + 1) w4.heap.size (w4.heap.size + 1) O m d off A4 L.length c4 L ((w4.alloc (.cells #[.slice A4 L.length c4] 39)).alloc (.cells #[.func (.func 101) #[] #[.pointer (some ⟨w.heap.size + 1, 0, none⟩)]] 137)) :=
    ⟨hRO.out _ (below_next hB4 hB6), blk_below h54 hB6, hL.below hB6, n8', n9⟩
  have ho6 := own_below ho4 hB6
  have hF6 := hFk.out _ _ hF4 hB6
  have hBw6 := below_next hB4 hB6
  have hne6 : ∀ i, (Value.slice A2 n2 c2).ownBlock = some i → w.heap.size + 1 ≠ i ∧ w4.heap.size ≠ i ∧ w4.heap.size + 1 ≠ i := fun i hi => by
    obtain ⟨a1, a2⟩ := hlt4 i hi
    omega
  have hlo6 : ∀ i, (Value.slice A2 n2 c2).ownBlock = some i → w.heap.size < i := fun i hi => by
    obtain ⟨a1, a2⟩ := hlt4 i hi
    omega
  clear hB4 hF4 h54 ho4 hlt4 n8 n8' n9 hB6 hL
  have hSo := Lib.hid (ocSort_c (w.heap.size + 1) w4.heap.size (w4.heap.size + 1) O m d off A4 L.length c4 L (w.heap.size + 1 + 1) n2 (.slice A2 n2 c2) F _ ho6 (by omega) hm K6 hne6 (fun W hg => hRO.out W (hBw6.trans (grown_below_own hg (fun i hi => by have := hlo6 i hi; omega) hBw6.size))))
  rw [hLi, ← hRV.out] at hSo
  have hBo := Lib.hid (fun W hg => show Below w.heap.size w W from hBw6.trans (grown_below_own hg (fun i hi => by have := hlo6 i hi; omega) hBw6.size))
  have hFo := Lib.hid (fun W hg => hFg.out _ W _ hF6 hg (fun e => by have := hlo6 _ e.symm; omega))
  have hlr : RV.length = n2 := by rw [hRV.out, insL_len, hl2]
  have hst : Sem.run Tryz.prog (store ⟨w4.heap.size + 1, 0, none⟩ (.func (.func 101) #[] #[.pointer (some ⟨w.heap.size + 1, 0, none⟩)])) ((w4.alloc (.cells #[.slice A4 L.length c4] 39)).alloc (.cells #[Value.nilFunc] 137)) = .ok () ((w4.alloc (.cells #[.slice A4 L.length c4] 39)).alloc (.cells #[(.func (.func 101) #[] #[.pointer (some ⟨w.heap.size + 1, 0, none⟩)])] 137)) := by
    have hh := heap_alloc_new (w4.alloc (.cells #[.slice A4 L.length c4] 39)) (.cells #[Value.nilFunc] 137)
    rw [alloc_size] at hh
    rw [run_store Tryz.prog _ _ _ _ rfl, (blk_facts hh).1 0, (blk_facts hh).2 0]
    have e9 := World.setCell_alloc_at (w := w4.alloc (.cells #[.slice A4 L.length c4] 39)) #[Value.nilFunc] 137 (w4.heap.size + 1) 0 (.func (.func 101) #[] #[.pointer (some ⟨w.heap.size + 1, 0, none⟩)]) (by rw [alloc_size])
    simp [e9]
  clear hBw6 hF6 ho6 K6 hne6 hlo6 hFg
  go_wp2_with fail
  refine hSo.out.mono ?_; rintro e w7 ⟨rfl, ho7, hg7⟩
  have hB7 := hBo.out _ hg7
  have hF7 := hFo.out _ hg7
  obtain ⟨y0, y1, y2⟩ := hFa.out _ hF7
  have hr7 : RSd w7 A2 n2 RV := RN.of_own sdE_len ho7 hlr (by omega)
  clear hSo ho7 hg7 hBo hFo
  go_wp2_with fail
  refine (hPl.out A2 n2 c2 RV w7 hr7 (by omega)).mono ?_; rintro e w8 ⟨A8, n8, c8, rfl, ho8, hn8, B8⟩
  have hB8 := below_next hB7 B8
  have hr8 : RPc w8 A8 n8 (plc ⟨sz, mn, rs⟩ RV 0 RV) := RN.of_own pcE_len ho8 (own_len pcE_len (by decide) ho8) (by omega)
  clear hF7 hB7 hr7 B8 ho8 y0 y1 y2
  go_wp2
  go_ret
  exact ⟨A8, n8, c8, rfl, hr8, hB8⟩
end Go.Proofs.YtjafcnblgeibpaaGreatDoor
