/- tumbref1.FinalsOf, tumbref1.DecidedFault; the comparison of tumbref1.DecidedOf. -/
import Derived.Test.YtjafcnblgeibpaaGreatDoorPlaR
import Derived.Test.YtjafcnblgeibpaaGreatDoorOffC
import Derived.Test.YtjafcnblgeibpaaGreatDoorGoneC
namespace Go.Proofs.YtjafcnblgeibpaaGreatDoor
open Go.RowKit Go.Shelf Go.Lib Go.Sort
set_option linter.unusedVariables false

set_option maxHeartbeats 1600000 in
theorem finalsOf_c (f : Fl) (hf : FlOk f) (A : Option Addr) (n c : Nat) (l : List Sd) (w : World) (h : RSd w A n l) (hn : n ≤ 19) (h0 : seedErr l = 0) :
    Calls Tryz.prog 22 #[f.val, .slice A n c] w fun e w' => ∃ A' n' c', e = .returned (.slice A' n' c') ∧ RPc w' A' n' (plcV f l) ∧ n' ≤ n ∧ Below w.heap.size w w' := by
  obtain ⟨_, hso⟩ := seedErr_ok h0
  have hFi := Lib.hid (fun W h => finishedRef_c A n c l W h hn (fun x hx => (hso x hx).2))
  have hP := Lib.hid (fun A2 n2 c2 W h h2 => placed_c f hf A2 n2 c2 (finL l) W h h2)
  have hPl := Lib.hid (show plcV f l = plc f (finL l) 0 (finL l) from rfl)
  have hF0 : FinB w.heap.size f (w.alloc (.cells f.cells 27)) := heap_alloc_new w _
  have hB0 := below_new w (.cells f.cells 27)
  have hFk := Lib.hid (fun a v (h : FinB w.heap.size f a) B => FinB.keep a v h B)
  have hFa := Lib.hid (fun v (h : FinB w.heap.size f v) => h.at_)
  have hR := Lib.hid (fun W B => h.below (w' := W) B)
  clear h0 h
  generalize plcV f l = PV at *
  obtain ⟨sz, mn, rs⟩ := f
  dsimp only [Fl.val, Fl.cells] at *
  generalize FinB w.heap.size ⟨sz, mn, rs⟩ = FB at *
  obtain ⟨y0, y1, y2⟩ := hFa.out _ hF0
  have hr1 := hR.out _ hB0
  go_enter Tryz.func22, Tryz.ntmps22
  go_wp2_with fail
  have hFd := Lib.hid (show FB (w.alloc (.cells #[.int .i64 sz, .int .i64 mn, .int .i64 rs] 27)).drew from hFk.out _ _ hF0 (below_drewN (Below.refl _ _) 1))
  have hB1' := Lib.hid (fun v (B : Below (w.alloc (.cells #[.int .i64 sz, .int .i64 mn, .int .i64 rs] 27)).heap.size (w.alloc (.cells #[.int .i64 sz, .int .i64 mn, .int .i64 rs] 27)).drew v) => below_next (below_drewN hB0 1) B)
  go_region_held3 (fun w' => w'.cell? ⟨w.heap.size, 0, none⟩ = some (.int .i64 sz) ∧ w'.cell? ⟨w.heap.size, 1, none⟩ = some (.int .i64 mn) ∧ w'.cell? ⟨w.heap.size, 2, none⟩ = some (.int .i64 rs))
    (first | go_keep | with_reducible exact ⟨y30, y31, y32⟩ | with_reducible exact ⟨y20, y21, y22⟩)
    (first
      | (go_at_call 96; refine (hFi.out _ (RSd_drewF hr1)).mono ?_; rintro e w2 ⟨A2, n2, c2, rfl, ho2, hn2, B2⟩; have hB2 := hB1'.out _ B2; have hF2 := hFk.out _ _ hFd.out B2; obtain ⟨y20, y21, y22⟩ := hFa.out _ hF2; have hr2 := RN.of_own sdE_len ho2 (own_len sdE_len (by decide) ho2) (by omega))
      | (go_at_call 95; refine (hP.out _ _ _ _ hr2 (by omega)).mono ?_; rintro e w3 ⟨A3, n3, c3, rfl, ho3, hn3, B3⟩; have hB3 := below_next hB2 B3; have hF3 := hFk.out _ _ hF2 B3; obtain ⟨y30, y31, y32⟩ := hFa.out _ hF3; rw [← hPl.out] at ho3; have hr3 := RN.of_own pcE_len ho3 (own_len pcE_len (by decide) ho3) (by omega)))
  clear ho2 ho3 hF2 hF3 hB2 hB1' hr1 hr2 hFd
  go_wp2
  go_ret
  exact ⟨A3, n3, c3, rfl, hr3, by omega, hB3⟩
theorem nmsOf_lenX (L : List Sd) (g : Nat × Nat) : (nmsOf L g).length ≤ L.length := by
  unfold nmsOf
  rw [List.length_map, List.length_take, List.length_drop]
  omega
theorem off_lensX {f : Fl} {l : List Sd} {L : List Nx} (h : L.map Nx.ids = offV f (finL l)) : L.length ≤ l.length ∧ ∀ x ∈ L, x.ids.length ≤ l.length := by
  have hF := finL_len l
  constructor
  · have h1 := congrArg List.length h
    rw [List.length_map] at h1
    unfold offV at h1
    rw [List.length_map] at h1
    have := grpV_len f (finL l)
    omega
  · intro x hx
    have h1 : x.ids ∈ offV f (finL l) := by rw [← h]; exact List.mem_map_of_mem hx
    unfold offV at h1
    obtain ⟨g, _, hg⟩ := List.mem_map.1 h1
    rw [← hg]
    exact Nat.le_trans (nmsOf_lenX _ _) hF
/-- tumbref1.DecidedFault's closure -/
theorem dfC_c (p1 : Nat) (A : Option Addr) (n c : Nat) (a : List ByteArray) (y : Sd) (w : World) (h : RS 9 w A n a) (h1 : w.heap[p1]? = some (.cells #[.slice A n c] 49 (0, 0))) :
    Calls Tryz.prog 100 #[.agg (sdE y).toArray, .pointer (some ⟨p1, 0, none⟩)] w fun e w' => e = .returned (.bool (!Lib.containsS a y.who)) ∧ Below w.heap.size w w' := by
  have hR := Lib.hid (fun W B => h.below (w' := W) B)
  have hC := Lib.hid (fun W h => containsN_c A n c a y.who W h)
  obtain ⟨who, time⟩ := y
  dsimp only [sdE] at *
  generalize Lib.containsS a who = R at *
  have hBn := below_new w (.cells #[.string who, .int .i64 time] 86)
  have hn0 := heap_alloc_new w (.cells #[.string who, .int .i64 time] 86)
  have hp1 := blk_below h1 hBn
  have a10 := (blk_facts hp1).1 0
  have x0 := (blk_facts hn0).1 0
  have hl1 := lt_of_heap h1
  clear hn0 h1 hp1 h
  go_enter Tryz.func100, Tryz.ntmps100
  go_wp2_with fail
  refine (hC.out _ (hR.out _ hBn)).mono ?_; rintro e w1 ⟨rfl, rfl⟩
  go_wp2
  go_ret
  exact ⟨rfl, hBn⟩
theorem idxDf_c (p : Sd → Bool) (p1 : Nat) (A : Option Addr) (n c : Nat) (l : List Sd) (w : World) (h : RSd w A n l) (hP : ∀ (x : Sd), x ∈ l → ∀ W, Below w.heap.size w W → Calls Tryz.prog 100 #[.agg (sdE x).toArray, .pointer (some ⟨p1, 0, none⟩)] W fun e w' => e = .returned (.bool (p x)) ∧ Below W.heap.size W w') :
    Calls Tryz.prog 159 #[.slice A n c, .func (.func 100) #[] #[.pointer (some ⟨p1, 0, none⟩)]] w fun e w' => ∃ i : Int, e = .returned (.int .i64 i) ∧ ((i = -1 ∧ ∀ x ∈ l, p x = false) ∨ ∃ (k : Nat) (x : Sd), i = k ∧ l[k]? = some x ∧ p x = true) ∧ Below w.heap.size w w' := by
  have hz := Lib.hid hP
  have hR := Lib.hid (fun W B => h.below (w' := W) B)
  have hl := Lib.hid h.len
  have hbd := h.bd
  clear hP h
  go_enter Tryz.func159, Tryz.ntmps159
  go_wp2_with fail
  go_loopw [8] (fun i wr => ∃ k : Nat, k ≤ n ∧ i = .int .i64 k ∧ Below w.heap.size w wr ∧ Hid (∀ x ∈ l.take k, p x = false)) (fun i _ => n - (intOf i).toNat)
  case atStart => exact ⟨0, Nat.zero_le _, rfl, Below.refl _ _, Lib.hid (fun x hx => by simp at hx)⟩
  case round =>
    rename World => wr
    obtain ⟨k, hk, rfl, hB, hF⟩ := hrel
    by_cases hlt : k < n
    · obtain ⟨b, off, x, rfl, hbl, hx, c0, c1⟩ := RSd_at2 (hR.out _ hB) hlt
      have hx' := Lib.hid hx
      have hzx := Lib.hid (hz.out x (List.mem_of_getElem? hx) wr hB)
      obtain ⟨pb, hpb⟩ : ∃ pb, p x = pb := ⟨_, rfl⟩
      rw [hpb] at hzx
      have hpb' := Lib.hid hpb
      obtain ⟨wo, tm⟩ := x
      dsimp only [sdE] at *
      clear hx hpb
      cases pb
      · have hF2 := Lib.hid (show ∀ x ∈ l.take (k + 1), p x = false from fun x hx => by
          rw [List.take_add_one, hx'.out] at hx
          rcases List.mem_append.1 hx with hx | hx
          · exact hF.out x hx
          · simp at hx; subst hx; exact hpb'.out)
        clear hF hx' hpb'
        go_wp2_with fail
        refine hzx.out.mono ?_; rintro e w1 ⟨rfl, B1⟩
        have hB1 := below_next hB B1
        go_wp2
        go_roundw
        case rel => exact ⟨k + 1, by omega, by go_num, hB1, hF2⟩
        case measure => simp [intOf]; omega
      · go_wp2_with fail
        refine hzx.out.mono ?_; rintro e w1 ⟨rfl, B1⟩
        have hB1 := below_next hB B1
        go_wp2
        go_ret
        exact ⟨_, rfl, .inr ⟨k, _, rfl, hx'.out, hpb'.out⟩, hB1⟩
    · obtain rfl : k = n := by omega
      have hI := Lib.hid (show ∀ x ∈ l, p x = false from fun x hx => hF.out x (by rw [List.take_of_length_le (by rw [hl.out]; exact Nat.le_refl _)]; exact hx))
      go_wp2
      go_ret
      exact ⟨_, rfl, .inl ⟨rfl, hI.out⟩, hB⟩
/-- whether all of a swim-off are among those who swim again -/
def inAll (N : List ByteArray) (off : List Sd) : Bool := off.all fun x => Lib.containsS N x.who
def decE (N : List ByteArray) (off : List Sd) : Int := if seedErr off ≠ 0 then seedErr off else if inAll N off = true then 0 else 8
set_option maxHeartbeats 1600000 in
theorem decidedFault_c (f : Fl) (hf : FlOk f) (A O : Option Addr) (n c m d : Nat) (l off : List Sd) (w : World) (h : RSd w A n l) (hO : RSd w O m off) (hn : n ≤ 19) (h0 : seedErr l = 0) :
    Calls Tryz.prog 26 #[f.val, .slice A n c, .slice O m d] w fun e w' => e = .returned (.int .i64 (decE (offV f (finL l)).flatten off)) ∧ Below w.heap.size w w' := by
  have hSF := Lib.hid (fun W h => seedsFault_c O m d off W h)
  have hSO := Lib.hid (fun W h => swimOffOf_c f hf A n c l W h hn h0)
  have hLe := Lib.hid (fun L hL => off_lensX (f := f) (l := l) (L := L) hL)
  have hln := Lib.hid h.len
  have hR := Lib.hid (fun W B => h.below (w' := W) B)
  have hRO := Lib.hid (fun W B => hO.below (w' := W) B)
  have hB0 := below_new w (.cells f.cells 27)
  have hF0 : FinB w.heap.size f (w.alloc (.cells f.cells 27)) := heap_alloc_new w _
  have hFk := Lib.hid (fun a v (h : FinB w.heap.size f a) B => FinB.keep a v h B)
  have hFa := Lib.hid (fun v (h : FinB w.heap.size f v) => h.at_)
  have hD1 := Lib.hid (fun (N : List ByteArray) (h : seedErr off ≠ 0) => show decE N off = seedErr off from if_pos h)
  have hD2 := Lib.hid (fun (N : List ByteArray) (h : seedErr off = 0) => show decE N off = if inAll N off = true then 0 else 8 from if_neg (by simpa using h))
  generalize offV f (finL l) = OV at *
  generalize seedErr off = SE at *
  obtain ⟨sz, mn, rs⟩ := f
  dsimp only [Fl.val, Fl.cells] at *
  generalize FinB w.heap.size ⟨sz, mn, rs⟩ = FB at *
  clear h hO
  by_cases hs : SE = 0
  rotate_left
  · rw [hD1.out _ hs]
    have hb : (SE != 0) = true := by simpa using hs
    clear hs hD1 hD2
    go_enter Tryz.func26, Tryz.ntmps26
    go_wp2_with fail
    refine (hSF.out _ (hRO.out _ hB0)).mono ?_; rintro e w1 ⟨rfl, B1⟩
    have hB1 := below_next hB0 B1
    go_wp2
    go_ret
    exact ⟨rfl, hB1⟩
  · have hD4 := hD2.out OV.flatten hs
    obtain ⟨DE, hDE⟩ : ∃ DE, decE OV.flatten off = DE := ⟨_, rfl⟩
    rw [hDE] at hD4
    rw [hDE]
    have hD3 := Lib.hid hD4
    subst hs
    clear hD1 hD2 hDE hD4
    go_enter Tryz.func26, Tryz.ntmps26
    go_wp2_with fail
    refine (hSF.out _ (hRO.out _ hB0)).mono ?_; rintro e w1 ⟨rfl, B1⟩
    have hB1 := below_next hB0 B1
    have hF1 := hFk.out _ _ hF0 B1
    obtain ⟨y0, y1, y2⟩ := hFa.out _ hF1
    clear B1 hB0 hF0
    go_wp2_with fail
    refine (hSO.out _ (hR.out _ hB1)).mono ?_; rintro e w3 ⟨u, rfl, A3, c3, L, rfl, hL, _, hLi, B3⟩
    have hB3 := below_next hB1 B3
    obtain ⟨hl1, hl2⟩ := hLe.out L hLi
    rw [hln.out] at hl1 hl2
    have hCo := Lib.hid (concatN_c A3 L.length c3 L w3 hL (by omega) (fun x hx => Nat.le_trans (hl2 x hx) (by omega)))
    clear hF1 y0 y1 y2 hB1 hSO hL hl1 hl2
    go_wp2_with fail
    refine hCo.out.mono ?_; rintro e w4 ⟨A4, c4, rfl, r4, B4⟩
    have hB4 := below_next hB3 B4
    have hfl : L.flatMap Nx.ids = OV.flatten := by rw [← hLi, List.flatMap_def]
    rw [hfl] at r4
    rw [hfl]
    clear hCo hB3 B4 hLi hfl
    generalize OV.flatten = NM at *
    have hn5 := heap_alloc_new w4 (.cells #[.slice A4 NM.length c4] 49)
    have hB5 := below_next hB4 (below_new w4 (.cells #[.slice A4 NM.length c4] 49))
    have r5 := r4.below (below_new w4 (.cells #[.slice A4 NM.length c4] 49))
    have hI := Lib.hid (idxDf_c (fun y => !Lib.containsS NM y.who) w4.heap.size O m d off (w4.alloc (.cells #[.slice A4 NM.length c4] 49)) (hRO.out _ hB5) (fun y _ W BW => dfC_c w4.heap.size A4 NM.length c4 NM y W (r5.below BW) (blk_below hn5 BW)))
    have hCf : Calls Tryz.prog 99 #[.slice O m d, .func (.func 100) #[] #[.pointer (some ⟨w4.heap.size, 0, none⟩)]] (w4.alloc (.cells #[.slice A4 NM.length c4] 49)) fun e w' => e = .returned (.bool (!inAll NM off)) ∧ Below (w4.alloc (.cells #[.slice A4 NM.length c4] 49)).heap.size (w4.alloc (.cells #[.slice A4 NM.length c4] 49)) w' := by
      clear hRO hR hSF hD3 hn5 hB5 r5 r4 hB4
      obtain ⟨bb, hbb⟩ : ∃ bb, (!inAll NM off) = bb := ⟨_, rfl⟩
      rw [hbb]
      have hbb' := Lib.hid hbb
      clear hbb
      go_enter Tryz.func99, Tryz.ntmps99
      go_wp2_with fail
      refine hI.out.mono ?_; rintro e w6 ⟨i, rfl, hi, B6⟩
      have hval : decide (0 ≤ i) = bb := by
        rw [← hbb'.out]
        rcases hi with ⟨rfl, hi⟩ | ⟨k, x, rfl, hx, hp⟩
        · have : inAll NM off = true := List.all_eq_true.2 (fun x hx => by simpa using hi x hx)
          rw [this]; rfl
        · have : inAll NM off = false := by
            rw [Bool.eq_false_iff]
            intro h9
            have := List.all_eq_true.1 h9 x (List.mem_of_getElem? hx)
            simp only [this] at hp
            cases hp
          rw [this]; simp
      clear hi hbb'
      subst hval
      go_wp2
      go_ret
      exact ⟨rfl, B6⟩
    have hCf' := Lib.hid hCf
    have hDv := Lib.hid (show DE = if (!inAll NM off) = true then 8 else 0 by rw [hD3.out]; cases inAll NM off <;> rfl)
    clear hI hCf hD3 hn5 r5 r4 hB4
    generalize (!inAll NM off) = bb at *
    go_wp2_with fail
    refine hCf'.out.mono ?_; rintro e w6 ⟨rfl, B6⟩
    have hB6 := below_next hB5 B6
    have hE : noneErr bb = DE := by rw [hDv.out]; cases bb <;> rfl
    have hNf := Lib.hid (fun W => noneFault_c bb W)
    rw [hE] at hNf
    clear hE hDv
    go_wp2_with fail
    refine (hNf.out _).mono ?_; rintro e w7 ⟨rfl, rfl⟩
    go_wp2
    go_ret
    exact ⟨rfl, hB6⟩
end Go.Proofs.YtjafcnblgeibpaaGreatDoor
