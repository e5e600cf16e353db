/- TopWinnersLead: whoever has rank 1 leads, and has no gap: the walk. -/
import Derived.Test.YtlddeeagnlgciaaGreatDoorP16
import Derived.Test.YtlddeeagnlgciaaGreatDoorEqWh
import Derived.Test.YtlddeeagnlgciaaGreatDoorReady4
import Derived.Test.YtlddeeagnlgciaaGreatDoorDraws
import Derived.Test.YtlddeeagnlgciaaGreatDoorP17
import Derived.Deep.RegionHeld3
import Derived.Deep.DeepCutAuto
namespace Go.Proofs.YtlddeeagnlgciaaGreatDoor
open Go.RowKit Go.Sort
set_option linter.unusedVariables false

set_option maxRecDepth 100000 in
set_option maxHeartbeats 1600000 in
theorem h06_c (w : World) : Calls Tryz.prog 12 #[] w fun e w' => e = .returned (.bool true) ∧ Below w.heap.size w w' := by
  go_enter Tryz.func12, Tryz.ntmps12
  go_wp2_with fail
  refine (write12_c _).mono ?_; rintro e w1 ⟨rfl, B1⟩
  go_wp2_with fail
  refine (lanes_c _).mono ?_; rintro e w2 ⟨A2, n2, c2, rfl, hr2, B2⟩
  have hB2 := below_next B1 B2
  have hn2 := hr2.len
  simp only [List.length_cons, List.length_nil] at hn2
  subst hn2
  go_wp2_with fail
  refine (rankA_c _ _ (heap_alloc_new w2 _)).mono ?_; rintro e w4 ⟨A4, c4, rfl, hown4, B4⟩
  have hr4 := (hr2.alloc _).below B4
  have hB4 := below_next hB2 (below_box B4)
  clear hr2 hB2 B4 hown4 B1 B2
  go_wp2_with fail
  refine (equal_c _ _ _ _ _ _ _ _ _ (hr4.alloc _) (R1.lit (enc := Value.int .i64) (e := 3) w4 #[.int .i64 3, .int .i64 4, .int .i64 2, .int .i64 5, .int .i64 1] [3, 4, 2, 5, 1] rfl (le_big (by decide)))).mono ?_; rintro e w5 ⟨rfl, B5⟩
  rw [show eqB [3, 4, 2, 5, 1] [3, 4, 2, 5, 1] = true from rfl]
  go_wp2
  go_ret
  exact ⟨rfl, below_next hB4 (below_box B5)⟩
set_option maxHeartbeats 1600000 in
set_option maxRecDepth 100000 in
theorem orderC_c (r : Race) (A : Option Addr) (n c : Nat) (l : List Sw) (t : Int) (w : World) (h : RSw w A n l) (hn : n ≤ 19) :
    Calls Tryz.prog 16 #[r.val, .slice A n c, .int .i64 t] w fun e w' => ∃ A' n' c', e = .returned (.tuple #[.slice A' n' c', .int .i64 (timeE r l t)]) ∧ n' ≤ n ∧ n' ≤ c' ∧ RS 9 w' A' n' ((atLs r l t).map Wh.who) ∧ Below w.heap.size w w' := by
  have hT := Lib.hid (fun W h => checkTime_c r A n c l t W h)
  have hA := Lib.hid (fun W h (h0 : timeE r l t = 0) => at_c r A n c l t W h (fieldErr_ok (timeE_ok h0).1).2.2 (timeE_ok h0).2.1 (timeE_ok h0).2.2 hn)
  unfold atLs
  generalize timeE r l t = E at *
  generalize whL r t l = WL at *
  obtain ⟨key, metres, stroke, course, legs, sex, young, old⟩ := r
  dsimp only [Race.val, Race.cells] at *
  have hb0 := heap_alloc_new w (.cells #[.string key, .int .i64 metres, .int .i64 stroke, .int .i64 course, .int .i64 legs, .int .i64 sex, .int .i64 young, .int .i64 old] 27)
  have zz := (blk_facts hb0).1
  by_cases h1 : E = 0
  · subst h1
    rw [if_pos rfl]
    go_enter Tryz.func16, Tryz.ntmps16
    go_wp2_with fail
    refine (hT.out _ (h.alloc _)).mono ?_; rintro e w1 ⟨rfl, B1⟩
    have hb1 := blk_below hb0 B1
    have hB1 := below_box B1
    have z := (blk_facts hb1).1
    clear hb0 zz B1
    go_wp2_with fail
    refine (hA.out _ (h.below hB1) trivial).mono ?_; rintro e w2 ⟨A', c', rfl, hR, B2⟩
    have hB2 := below_next hB1 B2
    have hRl := hR.len
    clear z hb1 hA hT
    go_wp2_with fail
    go_loopw [9, 24] (fun out i wr => ∃ (j : Nat) (acc : List ByteArray), j ≤ n ∧ i = .int .i64 j ∧ Hid (acc.length = j) ∧ wr.ownsRow w2.heap.size 9 1 out j (acc.map Value.string) ∧ Below w2.heap.size w2 wr ∧ Hid (acc ++ (WL.drop j).map Wh.who = WL.map Wh.who)) (fun _ i _ => n - (intOf i).toNat)
    case atStart => exact ⟨0, [], Nat.zero_le _, rfl, Lib.hid rfl, World.ownsRow_nil _ _ _ _, Below.refl _ _, Lib.hid rfl⟩
    case round =>
      obtain ⟨j, acc, hj, rfl, hla, hown, hBr, hG⟩ := hrel
      by_cases hlt : j < n
      · obtain ⟨b, off, x, rfl, hbl, hx, hc⟩ := (hR.below hBr).at_ hlt
        have c0 : wr.cell? ⟨b, off + j * 3, none⟩ = some (.string x.who) := hc 0 _ rfl
        have c1 : wr.cell? ⟨b, off + j * 3 + 1, none⟩ = some (.int .i64 x.num) := hc 1 _ rfl
        have c2 : wr.cell? ⟨b, off + j * 3 + 2, none⟩ = some (.int .i64 x.den) := hc 2 _ rfl
        have hT := Lib.hid (whos_at hx)
        obtain ⟨who, N, D⟩ := x
        dsimp only at *
        clear hx hc
        have hz := hBr.size
        have hown5 := hown.alloc (.cells #[.string who, .int .i64 N, .int .i64 D] 134)
        have hB5 := hBr.alloc hz (.cells #[.string who, .int .i64 N, .int .i64 D] 134)
        have hx5 := heap_alloc_new wr (.cells #[.string who, .int .i64 N, .int .i64 D] 134)
        have z0 := (blk_facts hx5).1 0
        have hz5 := hB5.size
        go_wp2_with (at_builtin; refine wpList_app rfl (.tmp 28) (.tmp 31) 45 rfl Tryz.underlying45 info_str rfl (by omega) (by omega) hown5 rfl rfl (by first | rfl | (simp; done)) rfl (by simp [Value.oneCell']) (by omega) hz5 ?_; intro v4 w4 hown4 hg4; have hB4 := below_own hB5 hown5 hg4 hz5 (Nat.le_refl _))
        have H := Lib.hid (And.intro (show w4.ownsRow w2.heap.size 9 1 v4 (j + 1) ((acc ++ [who]).map Value.string) by rw [List.map_append]; exact hown4) hB4)
        clear hown4 hown5 hB5 hB4
        go_roundw
        case rel => exact ⟨j + 1, acc ++ [who], by omega, by go_num, Lib.hid (by rw [List.length_append, hla.out]; rfl), H.out.1, H.out.2, Lib.hid (by rw [← hG.out, hT.out]; simp)⟩
        case measure => simp [intOf]; omega
      · obtain rfl : j = n := by omega
        have hG2 : acc = WL.map Wh.who := by have := hG.out; rw [drop_end (by rw [hRl]; exact Nat.le_refl _)] at this; simpa using this
        obtain ⟨A2, c2, rfl⟩ := own_shape hown
        have hcap : j ≤ c2 := own_capN hown
        have hB := below_next hB2 hBr
        go_wp2
        go_ret2
        refine ⟨A2, j, c2, rfl, Nat.le_refl _, hcap, ?_, hB⟩
        rw [← hG2]
        exact R1.of_own hown (by omega)
  · rw [if_neg h1]
    have hne : (E != 0) = true := by simpa using h1
    go_enter Tryz.func16, Tryz.ntmps16
    go_wp2_with fail
    refine (hT.out _ (h.alloc _)).mono ?_; rintro e w1 ⟨rfl, B1⟩
    have hB1 := below_box B1
    clear h1
    go_wp2
    go_ret2
    exact ⟨none, 0, 0, rfl, Nat.zero_le _, Nat.le_refl _, R1.nil_ _ _ _ _, hB1⟩
theorem containsS16_c (A : Option Addr) (n c : Nat) (l : List ByteArray) (x : ByteArray) (w : World) (h : RS 9 w A n l) :
    Calls Tryz.prog 17 #[.slice A n c, .string x] w fun e w' => e = .returned (.bool (Lib.containsS l x)) ∧ w' = w := by
  have hl := h.len
  have hb := h.bd
  rcases Nat.eq_zero_or_pos n with h0 | hp
  · subst h0
    obtain rfl : l = [] := List.eq_nil_of_length_eq_zero hl
    exact (Tryz.slices_Contains_string_empty A c x w)
  · obtain ⟨b, off, rfl, hc⟩ := shelf1 h hp
    refine (Tryz.slices_Contains_string b off n c l x w (by omega) (by omega) hc).mono fun _ _ ⟨he, hw⟩ => ⟨?_, hw⟩
    rw [he, List.take_of_length_le (by omega)]
theorem Rank_c (A B : Option Addr) (n c m c2 : Nat) (l : List Sd) (v : List Vd) (w : World) (h : RSd w A n l) (hv : RVd w B m v) (hn : n ≤ 19) :
    Calls Tryz.prog 13 #[.slice A n c, .slice B m c2] w (RetRk w (rankE l v) (rankD 1 l v)) := by
  have hR := Lib.hid (rank_c A B n c m c2 l v 1 w h hv hn (by omega) (by omega))
  generalize rankE l v = E at *
  generalize rankD 1 l v = D at *
  clear h hv
  go_enter Tryz.func13, Tryz.ntmps13
  go_wp2_with fail
  refine hR.out.mono ?_; rintro e w1 ⟨A', n', c', rfl, hr, hB⟩
  have H := Lib.hid (And.intro hr hB)
  clear hr hB hR
  go_wp2
  go_ret2
  exact ⟨A', n', c', rfl, H.out.1, H.out.2⟩
theorem RS_take {w : World} {b o n k : Nat} {l : List ByteArray} (h : RS 9 w (some ⟨b, o, none⟩) n l) (hk : k ≤ n) : RS 9 w (some ⟨b, o, none⟩) k (l.take k) := by
  have hl := h.len
  refine ⟨by rw [List.length_take]; omega, by have := h.bd; omega, fun hp => ?_⟩
  obtain ⟨b', o', cs, fz, hA, hb, hc⟩ := h.2.2 (by omega)
  refine ⟨b', o', cs, fz, hA, hb, fun j x hx => hc j x ?_⟩
  rw [List.getElem?_take] at hx
  split at hx
  · exact hx
  · cases hx
theorem seedsL_at {M : Nat} {l : List Sw} {k : Nat} {x : Sw} (h : l[k]? = some x) : seedsL M (l.drop k) = ⟨x.who, gapV M x⟩ :: seedsL M (l.drop (k + 1)) := by rw [drop_at h]; rfl
theorem snoc_sd {w : World} {base k : Nat} {out : Value} {acc : List Sd} {who : ByteArray} {t : Int} (h : w.ownsRow base 36 2 out k (acc.flatMap sdE ++ [.string who, .int .i64 t])) : w.ownsRow base 36 2 out k ((acc ++ [(⟨who, t⟩ : Sd)]).flatMap sdE) := by
  rw [← flat_snoc]
  exact h
def K16 (w : World) (b : Nat) (r : Race) (A : Option Addr) (n : Nat) (l : List Sw) (wx : World) : Prop := wx.heap[b]? = some (.cells r.cells 27 (0, 0)) ∧ RSw wx A n l ∧ Below w.heap.size w wx
theorem K16.below {w : World} {b : Nat} {r : Race} {A : Option Addr} {n : Nat} {l : List Sw} {wx w' : World} (h : K16 w b r A n l wx) (hb : Below wx.heap.size wx w') : K16 w b r A n l w' := ⟨blk_below h.1 hb, h.2.1.below hb, below_next h.2.2 hb⟩
set_option maxHeartbeats 6400000 in
set_option maxRecDepth 100000 in
theorem topWinnersLead_walk (a0 : Option Addr) (len0 cap0 : Nat) (z0 : List Int) (w : World) (w0 : IsRow .i64 w a0 len0 cap0 z0) :
    Calls Tryz.prog 3 #[.slice a0 len0 cap0] w fun e w' => e = .returned (.bool true) ∧ Below w.heap.size w w' := by
  have hs := law_start w0
  clear w0
  generalize z0.take len0 = zs at *
  go_enter Tryz.func3, Tryz.ntmps3
  go_wp2_with fail
  have hs' : St (w.alloc (.cells #[.slice a0 len0 cap0, .int .i64 0] 25)) w.heap.size zs 0 := hs
  refine (plainRace_c w.heap.size zs 0 _ hs' (by omega)).mono ?_; rintro e w1 ⟨rfl, s1, g1⟩
  rw [plainRace_2] at s1
  have hB : Below w.heap.size w w1 := (below_new w _).trans (grown_below g1 (Nat.le_refl _) (by simp))
  clear hs hs' g1
  have hok := plainRace_ok zs 0
  have hRF := Lib.hid (fun l h => And.intro (right_field (zs := zs) (k := 0) (l := l) h) (fun x hx => (right_rise (zs := zs) (k := 0) (l := l) h (x := x) hx).2))
  generalize (plainRace zs 0).1 = r at *
  have hlb := lenV_bd hok
  have s2 := s1.alloc (.cells r.cells 27)
  have hB2 := hB.alloc hB.size (.cells r.cells 27)
  have hb2 := heap_alloc_new w1 (.cells r.cells 27)
  have hRi := Lib.hid (fun W h hk => rightField_c w.heap.size zs (0 + 9) r W h hk hok)
  generalize hb4 : w1.heap.size = b4 at *
  have hlt4 : w.heap.size < b4 := by have := s1.lt; omega
  obtain ⟨M, hM⟩ : ∃ M : Nat, lenV r = M := ⟨(lenV r).toNat, by omega⟩
  have hLo := Lib.hid (fun W => lengthsOf_c r W hok)
  rw [hM] at hLo
  rw [hM] at hlb
  simp only [hM, Int.toNat_natCast] at hRF
  have hWin := Lib.hid (fun l h0 hl h1 => win_ok (r := r) (l := l) h0 hM hl h1)
  have hGa := Lib.hid (fun A n c l W h h0 hn hx1 hbx => gapsX_c r A n c M M l W h h0 hn hM (by omega) (by omega) hx1 hbx)
  have hOr := Lib.hid (fun A n c l t W h hn => orderC_c r A n c l t W h hn)
  have hTO := Lib.hid (fun l t (h0 : fieldErr r l = 0) (t0 : 0 ≤ t) (t1 : t ≤ 360000) => And.intro (show timeE r l t = 0 by unfold timeE; rw [if_pos h0, if_pos ⟨t0, t1⟩]) (show atLs r l t = whL r t l by unfold atLs; rw [if_pos (by unfold timeE; rw [if_pos h0, if_pos ⟨t0, t1⟩])]))
  have hWl := Lib.hid (fun l t => whL_len r t l)
  have hFe := Lib.hid (fun l (h : fieldErr r l = 0) => fieldErr_ok h)
  have hSb := Lib.hid (fun sp (h : wholeErr r sp = 0) => (splits_bd (wholeErr_ok h).1).2.2)
  clear hM s1 hB hok
  generalize RightF zs r = RF at *
  have hK : ∀ A n l wx, K16 w b4 r A n l wx → wx.heap[b4]? = some (.cells r.cells 27 (0, 0)) := fun A n l wx h => h.1
  have hKF : ∀ A n l wx, K16 w b4 r A n l wx → RSw wx A n l := fun A n l wx h => h.2.1
  have hKB : ∀ A n l wx, K16 w b4 r A n l wx → Below w.heap.size w wx := fun A n l wx h => h.2.2
  have hKb : ∀ A n l wx w', K16 w b4 r A n l wx → Below wx.heap.size wx w' → K16 w b4 r A n l w' := fun _ _ _ _ _ h hb => h.below hb
  have hKm := Lib.hid (fun A n l wx (h1 : wx.heap[b4]? = some (.cells r.cells 27 (0, 0))) h2 h3 => show K16 w b4 r A n l wx from And.intro h1 (And.intro h2 h3))
  generalize K16 w b4 r = KK at *
  obtain ⟨key, metres, stroke, course, legs, sex, young, old⟩ := r
  dsimp only [Race.val, Race.cells] at *
  have zc := (blk_facts hb2).1
  go_wp2_with fail
  refine (hRi.out _ s2 (by omega)).mono ?_; rintro e w3 ⟨A, n, c, l, k3, rfl, hown, hll, hn4, hri, hF, s3, hk3, g3⟩
  have hb3 := s2.keep g3 b4 _ _ (0, 0) (by decide) hb2
  have hfd := RSw.of_own hown hll (by omega) hri
  have hB3 := hB2.trans (grown_below g3 (Nat.le_refl _) hB2.size)
  clear zc hRi s2 hB2 hb2 hown hri g3 s3
  by_cases h0 : n = 0
  · subst h0
    clear hKm hK hKF hKB hKb hLo hWin hGa hOr hTO hFe hSb hRF
    go_wp2_with fail
    refine (h06_c _).mono ?_; rintro e w4 ⟨rfl, B4⟩
    have hB4 := below_next hB3 B4
    go_wp2
    go_ret
    exact ⟨rfl, hB4⟩
  · have hn1 : 1 ≤ n := by omega
    have hne : ((n : Int) == 0) = false := beq_eq_false_iff_ne.2 (by omega)
    obtain ⟨hfe, hlen⟩ := hRF.out l hF
    obtain ⟨_, _, hwe⟩ := hFe.out l hfe
    have hln : l ≠ [] := by intro e; rw [e] at hll; simp at hll; omega
    have hxn' := Lib.hid (fun x (hx : x ∈ l) => show x.n = M by rw [← (hfd.2 x hx).len]; exact hlen x hx)
    have hxb' := Lib.hid (fun x (hx : x ∈ l) => hSb.out _ (hwe x hx))
    obtain ⟨hw1, hw2, hw3, hF0, hF1, hw4, hw5⟩ := hWin.out l hfe hln hlen
    have hTO' := Lib.hid (hTO.out l (firstG M l) hfe hF0 hF1)
    have hWl' := Lib.hid (hWl.out l (firstG M l))
    have hfe' := Lib.hid hfe
    have hll' := Lib.hid hll
    have K := hKm.out A n l w3 hb3 hfd hB3
    have hK' := fun wx => hK A n l wx
    have hKF' := fun wx => hKF A n l wx
    have hKB' := fun wx => hKB A n l wx
    have hKb' := fun wx w' => hKb A n l wx w'
    generalize KK A n l = KK2 at *
    clear hK hKF hKB hKb hKm hWin hTO hWl hSb hRF hFe hwe hlen hF hln hfe hb3 hfd hB3
    clear KK
    have hw1' := Lib.hid hw1
    have hw2' := Lib.hid hw2
    have hw3' := Lib.hid hw3
    have hw4' := Lib.hid hw4
    have hw5' := Lib.hid hw5
    clear hw1 hw2 hw3 hw4 hw5 h0
    go_wp2_with fail
    have e1 : IntKind.i64.wrap ((M : Int) - 1) = (M : Int) - 1 := IntWalk.i64_in _ (by omega)
    have e2 : 0 ≤ (M : Int) - 1 := by omega
    have e3 : ((M : Int) - 1).toNat = M - 1 := by omega
    have e4 : (M : Int) - 1 < M := by omega
    go_loopw [6, 31] (fun out i wr => ∃ (j : Nat) (acc : List Sd), j ≤ n ∧ i = .int .i64 j ∧ Hid (acc.length = j) ∧ wr.ownsRow w3.heap.size 36 2 out j (acc.flatMap sdE) ∧ Below w3.heap.size w3 wr ∧ Hid (acc ++ seedsL M (l.drop j) = seedsL M l)) (fun _ i _ => n - (intOf i).toNat)
    case atStart => exact ⟨0, [], Nat.zero_le _, rfl, Lib.hid rfl, World.ownsRow_nil _ _ _ _, Below.refl _ _, Lib.hid rfl⟩
    case round =>
      obtain ⟨j, acc, hj, rfl, hla, hown, hB, hG⟩ := hrel
      by_cases hlt : j < n
      · obtain ⟨b, off, x, hA, hbl, hx, c0, c1, hI⟩ := ((hKF' _ K).below hB).at2 hlt
        subst hA
        have hxm := List.mem_of_getElem? hx
        have hMx := hxn'.out x hxm
        have hbd := hxb'.out x hxm
        have hT := Lib.hid (seedsL_at (M := M) hx)
        obtain ⟨bX, oX, tX, hXA, lX0, htX, cX0⟩ := ((hKF' _ K).2 x hxm).at_ (k := M - 1) (by omega)
        have cX := (hB.cell (p := ⟨bX, oX + (M - 1), none⟩) lX0).trans cX0
        have lX : bX < wr.heap.size := Nat.lt_of_lt_of_le lX0 hB.size
        have htg : gapV M x = tX := getD_of htX
        have htb := hbd _ (List.mem_of_getElem? htX)
        rw [htg] at hT
        obtain ⟨who, xA, xn, xc, xs⟩ := x
        dsimp only at *
        subst hXA
        subst hMx
        clear hx hxm hbd hI htX htg
        have hz := hB.size
        obtain ⟨AO, cO, rfl⟩ := own_shape hown
        have hneS := hown.lt
        have hown5 := hown.alloc (.cells #[.string who, .slice (some ⟨bX, oX, none⟩) xn xc] 34)
        have hB5 := hB.alloc hz (.cells #[.string who, .slice (some ⟨bX, oX, none⟩) xn xc] 34)
        have hx5 := heap_alloc_new wr (.cells #[.string who, .slice (some ⟨bX, oX, none⟩) xn xc] 34)
        have cX5 : (wr.alloc (.cells #[.string who, .slice (some ⟨bX, oX, none⟩) xn xc] 34)).cell? ⟨bX, oX + (xn - 1), none⟩ = some (.int .i64 tX) := (World.cell?_alloc_lt wr _ ⟨bX, oX + (xn - 1), none⟩ (by show bX < wr.heap.size; omega)).trans cX
        have z0 := (blk_facts hx5).1 0
        have z1 := (blk_facts hx5).1 1
        have lx5 := lt_of_heap hx5
        have hz5 := hB5.size
        have lX5 : bX < wr.heap.size := lX
        have hKh := Lib.hid K
        have hG1 := Lib.hid hK'
        have hG2 := Lib.hid hKF'
        have hG3 := Lib.hid hKB'
        have hG4 := Lib.hid hKb'
        clear hK' hKF' hKB' hKb' K
        go_wp2_with fail
        clear c0 c1 hown hB
        generalize hW : wr.alloc (.cells #[.string who, .slice (some ⟨bX, oX, none⟩) xn xc] 34) = w5 at *
        generalize wr.heap.size = b7 at *
        clear hW hx5
        obtain ⟨i0, hi0, hz0, hz1, hz2⟩ := info_parts info_seed
        go_region_held3 (fun w' => w'.cell? ⟨b7, 0, none⟩ = some (.string who) ∧ w'.cell? ⟨b7, 1, none⟩ = some (.slice (some ⟨bX, oX, none⟩) xn xc) ∧ w'.cell? ⟨bX, oX + (xn - 1), none⟩ = some (.int .i64 tX))
          (first | go_keep | with_reducible exact ⟨q0, q1, qX⟩)
          (first
            | (refine step_append_lies _ (by rfl) _ _ _ (by rfl) w3.heap.size 36 i0 _ 2 24 Tryz.underlying32 hi0 hz0 hz1 hz2 rfl (by omega) _ j (acc.flatMap sdE) (by rfl) (hown5.drew.alloc _) ⟨w5.heap.size, 0, none⟩ 1 1 [.string who, .int .i64 tX] (by rfl) (by rfl) (World.news_of_block (cs := #[.string who, .int .i64 tX]) (t := 36) (fr := (0, 0)) (heap_alloc_new w5.drew _)) (by simp [Value.oneCell']) (by omega) (by unfold maxLen; omega) (by omega) (by simp; omega) (w5.heap.size + 1) (by simp) ?_; intro gg cap w7 hown7 hgrow hat hlt7; have q0 := (hgrow.cell_far ⟨b7, 0, none⟩ (by simp; omega) (fun e => by have := hneS b7 e.symm; omega)).trans ((World.cell?_alloc_lt w5 _ ⟨b7, 0, none⟩ (by show b7 < w5.heap.size; omega)).trans z0); have q1 := (hgrow.cell_far ⟨b7, 1, none⟩ (by simp; omega) (fun e => by have := hneS b7 e.symm; omega)).trans ((World.cell?_alloc_lt w5 _ ⟨b7, 1, none⟩ (by show b7 < w5.heap.size; omega)).trans z1); have qX := (hgrow.cell_far ⟨bX, oX + (xn - 1), none⟩ (by simp; omega) (fun e => by have := hneS bX e.symm; omega)).trans ((World.cell?_alloc_lt w5 _ ⟨bX, oX + (xn - 1), none⟩ (by show bX < w5.heap.size; omega)).trans cX5)))
        have hB7 := below_own ((below_drewN hB5 1).alloc (by simpa using hz5) _) (hown5.drew.alloc _) hgrow (by simp; omega) (Nat.le_refl _)
        have H := Lib.hid (And.intro (snoc_sd hown7) hB7)
        clear hown7 hgrow hat hlt7 q0 q1 qX cX5 z0 z1 hi0 hz0 hz1 hz2 hown5 hB5 hneS hB7
        go_wp2
        go_roundw
        case rel => exact ⟨j + 1, _, by omega, by go_num, Lib.hid (by rw [List.length_append, hla.out]; rfl), H.out.1, H.out.2, Lib.hid (by rw [← hG.out, hT.out]; simp)⟩
        case measure => simp [intOf]; omega
      · obtain rfl : j = n := by omega
        have hacc : acc = seedsL M l := by have := hG.out; rw [drop_end (by rw [hll'.out]; exact Nat.le_refl _)] at this; simpa [seedsL] using this
        subst hacc
        obtain ⟨A1, c1, rfl⟩ := own_shape hown
        have hSd : RSd wr A1 j (seedsL M l) := RN.of_own sdE_len hown (by rw [hla.out]) (by omega)
        replace K : KK2 wr := hKb' _ _ K hB
        have hRk := Lib.hid (Rank_c A1 none j c1 0 0 (seedsL M l) [] wr hSd (RN.nil_ _ _ _ _ _) (by omega))
        have hE0 : rankE (seedsL M l) [] = 0 := by unfold rankE; rw [if_neg (by rw [hw1'.out]; simp)]; rfl
        have hD0 : rankD 1 (seedsL M l) [] = rankF M l := by unfold rankD; rw [if_pos hE0]; rfl
        rw [hE0, hD0] at hRk
        clear hE0 hD0 hSd hown hG hla hB e1 e2 e3 e4
        have hRl := hw2'.out
        have hGl := hw3'.out
        rw [hll'.out] at hRl hGl
        have hRl' := Lib.hid hRl
        have hGl' := Lib.hid hGl
        clear hRl hGl
        have hFF := Lib.hid (show 0 ≤ firstG M l ∧ firstG M l ≤ 360000 from ⟨hF0, hF1⟩)
        clear hF0 hF1
        generalize rankF M l = R at *
        have hOr' := Lib.hid (fun t W h => hOr.out A j c l t W h (by omega))
        have hGa' := Lib.hid (fun W h => hGa.out A j c l W h hfe'.out (by omega) hxn'.out hxb'.out)
        generalize hGG : gpSortL (gapLs M (firstG M l) l) = GG at *
        have hGG' := Lib.hid hGG
        clear hGG hOr hGa
        generalize firstG M l = F at *
        clear hw1' hw2' hw3' hxn' hxb'
        go_wp2_with fail
        refine hRk.out.mono ?_; rintro e w4 ⟨A9, n9, c9, rfl, hR, B4⟩
        have hn9 : n9 = j := by rw [← hR.len]; exact hRl'.out
        subst hn9
        replace K := hKb' _ _ K B4
        clear hRk B4
        have Kd : KK2 w4.drew := hKb' _ _ K (below_drewN (Below.refl _ _) 1)
        have hRd : RRk w4.drew A9 n9 R := hR
        have z0 := (blk_facts (hK' _ Kd)).1 0
        have z1 := (blk_facts (hK' _ Kd)).1 1
        have z2 := (blk_facts (hK' _ Kd)).1 2
        have z3 := (blk_facts (hK' _ Kd)).1 3
        have z4 := (blk_facts (hK' _ Kd)).1 4
        have z5 := (blk_facts (hK' _ Kd)).1 5
        have z6 := (blk_facts (hK' _ Kd)).1 6
        have z7 := (blk_facts (hK' _ Kd)).1 7
        clear K hR
        go_wp2
        go_region_held3 (fun w' => w'.cell? ⟨b4, 0, none⟩ = some (.string key) ∧ w'.cell? ⟨b4, 1, none⟩ = some (.int .i64 metres) ∧ w'.cell? ⟨b4, 2, none⟩ = some (.int .i64 stroke) ∧ w'.cell? ⟨b4, 3, none⟩ = some (.int .i64 course) ∧ w'.cell? ⟨b4, 4, none⟩ = some (.int .i64 legs) ∧ w'.cell? ⟨b4, 5, none⟩ = some (.int .i64 sex) ∧ w'.cell? ⟨b4, 6, none⟩ = some (.int .i64 young) ∧ w'.cell? ⟨b4, 7, none⟩ = some (.int .i64 old)) (first | go_keep | with_reducible exact ⟨z0, z1, z2, z3, z4, z5, z6, z7⟩ | with_reducible exact ⟨y0, y1, y2, y3, y4, y5, y6, y7⟩ | with_reducible exact ⟨p0, p1, p2, p3, p4, p5, p6, p7⟩)
          (first
            | (go_at_call 15; with_reducible refine (hLo.out _).mono ?_; rintro e w5 ⟨rfl, B5⟩; have K5 := hKb' _ _ Kd B5; have hR5 := hRd.below B5; have y0 := (blk_facts (hK' _ K5)).1 0; have y1 := (blk_facts (hK' _ K5)).1 1; have y2 := (blk_facts (hK' _ K5)).1 2; have y3 := (blk_facts (hK' _ K5)).1 3; have y4 := (blk_facts (hK' _ K5)).1 4; have y5 := (blk_facts (hK' _ K5)).1 5; have y6 := (blk_facts (hK' _ K5)).1 6; have y7 := (blk_facts (hK' _ K5)).1 7)
            | (go_at_call 14; with_reducible refine (hGa'.out _ (hKF' _ K5)).mono ?_; rintro e w6 ⟨A11, c11, rfl, hG6, B6⟩; have K6 := hKb' _ _ K5 B6; have hR6 := hR5.below B6; have p0 := (blk_facts (hK' _ K6)).1 0; have p1 := (blk_facts (hK' _ K6)).1 1; have p2 := (blk_facts (hK' _ K6)).1 2; have p3 := (blk_facts (hK' _ K6)).1 3; have p4 := (blk_facts (hK' _ K6)).1 4; have p5 := (blk_facts (hK' _ K6)).1 5; have p6 := (blk_facts (hK' _ K6)).1 6; have p7 := (blk_facts (hK' _ K6)).1 7))
        clear Kd hRd K5 hR5 B5 B6 z0 z1 z2 z3 z4 z5 z6 z7 y0 y1 y2 y3 y4 y5 y6 y7 p0 p1 p2 p3 p4 p5 p6 p7 hLo hGa'
        go_wp2
        obtain ⟨bR, oR, y0, hA9, hbR, hy0, _, _, d2, _⟩ := RRk.at4 hR6 (k := 0) (by omega)
        subst hA9
        rw [hw4'.out y0 hy0] at d2
        rw [Nat.zero_mul, Nat.add_zero] at d2
        have hOr2 := Lib.hid (fun W h => hOr'.out F W h)
        rw [hTO'.out.1, hTO'.out.2] at hOr2
        have hNl := Lib.hid (show ((whL ⟨key, metres, stroke, course, legs, sex, young, old⟩ F l).map Wh.who).length = n9 by rw [List.length_map, hWl'.out, hll'.out])
        generalize (whL ⟨key, metres, stroke, course, legs, sex, young, old⟩ F l).map Wh.who = NM at *
        have Kd : KK2 w6.drew := hKb' _ _ K6 (below_drewN (Below.refl _ _) 1)
        have hRd : RRk w6.drew (some ⟨bR, oR, none⟩) n9 R := hR6
        have hGd : RGp w6.drew A11 n9 GG := hG6
        have d2' : w6.drew.cell? ⟨bR, oR + 2, none⟩ = some (.int .i64 F) := d2
        have hbR' : bR < w6.drew.heap.size := hbR
        have z0 := (blk_facts (hK' _ Kd)).1 0
        have z1 := (blk_facts (hK' _ Kd)).1 1
        have z2 := (blk_facts (hK' _ Kd)).1 2
        have z3 := (blk_facts (hK' _ Kd)).1 3
        have z4 := (blk_facts (hK' _ Kd)).1 4
        have z5 := (blk_facts (hK' _ Kd)).1 5
        have z6 := (blk_facts (hK' _ Kd)).1 6
        have z7 := (blk_facts (hK' _ Kd)).1 7
        clear K6 hR6 hG6 d2 hOr' hTO' hWl' hy0 hbR
        have hR1 : (1 : Int) ≤ (n9 : Int) := by omega
        have hR0 : 0 < n9 := by omega
        go_region_held3 (fun w' => w'.cell? ⟨b4, 0, none⟩ = some (.string key) ∧ w'.cell? ⟨b4, 1, none⟩ = some (.int .i64 metres) ∧ w'.cell? ⟨b4, 2, none⟩ = some (.int .i64 stroke) ∧ w'.cell? ⟨b4, 3, none⟩ = some (.int .i64 course) ∧ w'.cell? ⟨b4, 4, none⟩ = some (.int .i64 legs) ∧ w'.cell? ⟨b4, 5, none⟩ = some (.int .i64 sex) ∧ w'.cell? ⟨b4, 6, none⟩ = some (.int .i64 young) ∧ w'.cell? ⟨b4, 7, none⟩ = some (.int .i64 old) ∧ w'.cell? ⟨bR, oR + 2, none⟩ = some (.int .i64 F)) (first | go_keep | with_reducible exact ⟨z0, z1, z2, z3, z4, z5, z6, z7, d2'⟩ | with_reducible exact ⟨y0, y1, y2, y3, y4, y5, y6, y7, d2y⟩)
          (first
            | (go_at_call 16; with_reducible refine (hOr2.out _ (hKF' _ Kd)).mono ?_; rintro e w7 ⟨A13, n13, c13, rfl, hn13, hc13, hN7, B7⟩; have K7 := hKb' _ _ Kd B7; have hR7 := hRd.below B7; have hG7 := hGd.below B7; have d2y := (B7.cell (p := ⟨bR, oR + 2, none⟩) hbR').trans d2'; have y0 := (blk_facts (hK' _ K7)).1 0; have y1 := (blk_facts (hK' _ K7)).1 1; have y2 := (blk_facts (hK' _ K7)).1 2; have y3 := (blk_facts (hK' _ K7)).1 3; have y4 := (blk_facts (hK' _ K7)).1 4; have y5 := (blk_facts (hK' _ K7)).1 5; have y6 := (blk_facts (hK' _ K7)).1 6; have y7 := (blk_facts (hK' _ K7)).1 7))
        have hn13' : n13 = n9 := by rw [← hN7.len]; exact hNl.out
        subst hn13'
        clear Kd hRd hGd d2' d2y hbR' B7 hOr2 hn13 z0 z1 z2 z3 z4 z5 z6 z7 y0 y1 y2 y3 y4 y5 y6 y7
        go_wp2
        go_loopw [104] (fun i wr => ∃ k : Nat, k ≤ n13 ∧ i = .int .i64 k ∧ Below w7.heap.size w7 wr) (fun i _ => n13 - (intOf i).toNat)
        case atStart => exact ⟨0, Nat.zero_le _, rfl, Below.refl _ _⟩
        case round =>
          obtain ⟨k, hk, rfl, hBr⟩ := hrel
          by_cases hlt : k < n13
          · obtain ⟨b', o', y, hA, _, hy, c0, c1, c2, c3⟩ := RRk.at4 (hR7.below hBr) hlt
            injection hA with hA
            injection hA with q1 q2
            subst q1 q2
            obtain ⟨bG, oG, g, hAG, lG, hg, g0, g1, g2⟩ := RGp.atN (hG7.below hBr) hlt
            subst hAG
            obtain ⟨hw, hin⟩ := hw5'.out k y g hy hg
            obtain ⟨bO, oO, u0, hAO, lO, hu0, _⟩ := (hN7.below hBr).at_ (k := k) hlt
            subst hAO
            have hn5 := heap_alloc_new wr (.cells #[.string y.who, .int .i64 y.rank, .int .i64 y.time, .int .i64 y.fault] 49)
            have hB5 := hBr.alloc hBr.size (.cells #[.string y.who, .int .i64 y.rank, .int .i64 y.time, .int .i64 y.fault] 49)
            have hT5 := RS_take (hN7.below hB5) (k := k + 1) (by omega)
            have g25 : (wr.alloc (.cells #[.string y.who, .int .i64 y.rank, .int .i64 y.time, .int .i64 y.fault] 49)).cell? ⟨bG, oG + k * 3 + 2, none⟩ = some (.int .i64 g.behind) := (World.cell?_alloc_lt wr _ ⟨bG, oG + k * 3 + 2, none⟩ lG).trans g2
            have x0 := (blk_facts hn5).1 0
            have x1 := (blk_facts hn5).1 1
            have m1 : IntKind.i64.wrap ((k : Int) + 1) = (k : Int) + 1 := IntWalk.i64_in _ (by omega)
            have m2 : 0 ≤ (k : Int) + 1 := by omega
            have m3 : ((k : Int) + 1).toNat = k + 1 := by omega
            have m4 : k + 1 ≤ c13 := by omega
            have m5 : (k : Int) + 1 ≤ c13 := by omega
            by_cases h1 : y.rank = 1
            · have h2 := hw.1 h1
              have hct := Lib.hid (fun q => containsS16_c (some ⟨bO, oO, none⟩) (k + 1) c13 (NM.take (k + 1)) y.who _ (hT5.drewN q))
              have hcv : Lib.containsS (NM.take (k + 1)) y.who = true := (Lib.containsS_iff _ _).2 (hin h1)
              rw [hcv] at hct
              rw [h1] at x0 x1 hct g25 hB5
              rw [h2] at g25
              obtain ⟨yw, yr, yt, yf⟩ := y
              dsimp only at *
              subst h1
              clear hw hin hy hg hu0 g0 g1 g2 h2 hcv hn5 hT5
              go_wp2
              go_quiet ((go_at_call 17; refine Calls.quiet_of_same (hct.out _)))
              go_wp2
              go_roundw
              case rel => exact ⟨k + 1, by omega, by go_num, below_drewN hB5 _⟩
              case measure => simp [intOf]; omega
            · have h2 : g.behind ≠ 0 := fun e => h1 (hw.2 e)
              have h1' : (y.rank == 1) = false := beq_eq_false_iff_ne.2 h1
              have h2' : (g.behind == 0) = false := beq_eq_false_iff_ne.2 h2
              obtain ⟨yw, yr, yt, yf⟩ := y
              dsimp only at *
              clear hw hin hy hg hu0 g0 g1 g2 h2 h1 hn5 hT5
              go_wp2
              go_quiet (fail)
              go_wp2
              go_roundw
              case rel => exact ⟨k + 1, by omega, by go_num, below_drewN hB5 _⟩
              case measure => simp [intOf]; omega
          · have hBf := below_next (hKB' _ K7) hBr
            clear hw5' hK' hKF' hKB' hKb' hR7 hG7 hN7
            go_wp2_with fail
            refine (h06_c _).mono ?_; rintro e w8 ⟨rfl, B8⟩
            have hB8 := below_next hBf B8
            go_wp2
            go_ret
            exact ⟨rfl, hB8⟩
end Go.Proofs.YtlddeeagnlgciaaGreatDoor
