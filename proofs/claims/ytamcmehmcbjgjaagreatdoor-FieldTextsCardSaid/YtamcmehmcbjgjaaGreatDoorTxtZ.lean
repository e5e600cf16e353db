/- The texts of fields: tumbref1.SwimLines, race.Text. -/
import Derived.Test.YtamcmehmcbjgjaaGreatDoorTxtU
import Derived.Test.YtamcmehmcbjgjaaGreatDoorTxtX
import Derived.Deep.RegionHeld3
namespace Go.Proofs.YtamcmehmcbjgjaaGreatDoor
open Go.RowKit Go.Lib
set_option linter.unusedVariables false

theorem info_strU : (Tryz.prog.info? 9).map (fun i => (i.zero, i.size, i.bytes)) = some (some (.string ⟨#[]⟩), 1, 16) := by kernel_rfl
theorem own_tyG {w : World} {B1 B2 s1 s2 n1 n2 : Nat} {e1 e2 : TypeId} {u1 u2 : Value} {x1 x2 : List Value} (h1 : w.ownsRow B1 e1 s1 u1 n1 x1) (h2 : w.ownsRowF B2 e2 s2 u2 n2 x2) (he : e2 ≠ e1) : u2.ownBlock = none ∨ u2.ownBlock ≠ u1.ownBlock := by
  rcases h2.2 with ⟨rfl, _⟩ | ⟨g2, cap2, cur2, fz2, rfl, _, hh2, _⟩
  · exact .inl rfl
  · refine .inr ?_
    rcases h1.2 with ⟨rfl, _⟩ | ⟨g1, cap1, cur1, rfl, _, hh1, _⟩
    · simp [Value.ownBlock]
    · intro e
      have e' : g2 = g1 := by simpa [Value.ownBlock] using e
      subst e'
      rw [hh1] at hh2
      injection hh2 with hh2
      injection hh2 with _ hh2
      exact he hh2.symm
theorem Bd.grown {B b B2 n : Nat} {l : List UInt8} {u : Value} {xs : List Value} {w w' : World} (h : Bd B b l w) (ho : w.ownsRow B2 9 1 u n xs) (hg : w.grownBy w' u.ownBlock) : Bd B b l w' := by
  obtain ⟨cs, hb⟩ := h.blk
  refine h.grown0 hg (fun e => ?_) fun v hv => own_tyG ho hv (by decide)
  rcases ho.2 with ⟨rfl, _⟩ | ⟨g1, cap1, cur1, rfl, _, hh1, _⟩
  · simp [Value.ownBlock] at e
  · have e' : b = g1 := by simpa [Value.ownBlock] using e
    subst e'
    rw [hh1] at hb
    injection hb with hb
    injection hb with _ hb
    exact absurd hb (by decide)
theorem fdText_le (l : List (ByteArray × List Int)) (k : Nat) : (fdText (l.take k)).length ≤ (fdText l).length := by
  unfold fdText
  conv => rhs; rw [← List.take_append_drop k l, List.flatMap_append, List.length_append]
  omega
theorem fdText_at {l : List Sw} {k : Nat} {x : Sw} (h : l[k]? = some x) : fdText ((l.take (k + 1)).map swD) = fdText ((l.take k).map swD) ++ (x.who.data.toList ++ [32] ++ join (x.sp.map itoa) [44] ++ [10]) := by
  rw [List.take_add_one, h]
  unfold fdText
  simp [fdLine, swD]
theorem words_L (l : List Int) : (l.map itoaS).map bL = l.map itoa := by
  rw [List.map_map]
  exact List.map_congr_left fun n _ => by simp [bL, itoaS]
set_option maxHeartbeats 6400000 in
set_option maxRecDepth 100000 in
theorem swimLines_c (A : Option Addr) (n c : Nat) (l : List Sw) (w : World) (h : RSw w A n l) (hT : Tb w) (hS : (fdText (l.map swD)).length ≤ 900000) (hx : ∀ x ∈ l, x.n ≤ 1000 ∧ ∀ y ∈ x.sp, 0 ≤ y ∧ y ≤ 999999) :
    Calls Tryz.prog 10 #[.slice A n c] w fun e w' => e = .returned (.string ⟨(fdText (l.map swD)).toArray⟩) ∧ Below w.heap.size w w' := by
  have hl := h.1.len
  have hbd := h.1.bd
  have hR := Lib.hid (fun W (B : Below w.heap.size w W) => h.below B)
  have hTb := Lib.hid (fun W (B : Below w.heap.size w W) => hT.below B)
  have hx' := Lib.hid hx
  have hAt := Lib.hid (fun (k : Nat) x (h : l[k]? = some x) => fdText_at h)
  have hLe := Lib.hid (fun (k : Nat) => show (fdText ((l.take k).map swD)).length ≤ 900000 by rw [List.map_take]; exact Nat.le_trans (fdText_le _ k) hS)
  have hEnd := Lib.hid (show fdText ((l.take n).map swD) = fdText (l.map swD) by rw [List.take_of_length_le (by omega)])
  have hB0 := below_new w (.cells #[.pointer none, .slice none 0 0] 83)
  have hb0 := Bd.start (w := w)
  obtain ⟨T, hTx⟩ : ∃ T, fdText (l.map swD) = T := ⟨_, rfl⟩
  rw [hTx] at hEnd ⊢
  clear h hT hx hS hTx
  go_enter Tryz.func10, Tryz.ntmps10
  go_wp2_with fail
  generalize w.alloc (.cells #[.pointer none, .slice none 0 0] 83) = w1 at *
  go_loopw [5, 6, 8, 11] (fun _ _ _ i wr => ∃ k : Nat, k ≤ n ∧ i = .int .i64 k ∧ Bd w.heap.size w.heap.size (fdText ((l.take k).map swD)) wr ∧ Below w.heap.size w wr) (fun _ _ _ i _ => n - (intOf i).toNat)
  case atStart => exact ⟨0, Nat.zero_le _, rfl, hb0, hB0⟩
  case round =>
    clear hb0 hB0
    rename World => wr
    obtain ⟨k, hk, rfl, hBd, hB⟩ := hrel
    by_cases hlt : k < n
    · obtain ⟨bs, os, x, rfl, hbl, hxk, c0, c1, hI⟩ := (hR.out _ hB).at2 hlt
      have hxb := hx'.out x (List.mem_of_getElem? hxk)
      have hAk := Lib.hid (hAt.out k x hxk)
      have hL1 := Lib.hid (hLe.out (k + 1))
      obtain ⟨xw, xA, xn, xc, xs⟩ := x
      dsimp only at *
      have hn0 := heap_alloc_new wr (.cells #[.string xw, .slice xA xn xc] 42)
      have hBn := below_new wr (.cells #[.string xw, .slice xA xn xc] 42)
      have y1 := (blk_facts hn0).1 1
      have hneq := Lib.hid (show wr.heap.size ≠ w.heap.size by obtain ⟨cs, hcs⟩ := hBd.blk; have := lt_of_heap hcs; omega)
      have hBd1 := hBd.below hBn
      have hB1 := below_next hB hBn
      have hI1 := hI.below hBn
      clear hxk hBd
      go_wp2_with fail
      generalize wr.alloc (.cells #[.string xw, .slice xA xn xc] 42) = w3 at *
      clear y1
      go_loopw [6, 8, 18] (fun u _ i wy => ∃ q : Nat, q ≤ xn ∧ i = .int .i64 q ∧ wy.ownsRow w.heap.size 9 1 u q (((xs.take q).map itoaS).map Value.string) ∧ Bd w.heap.size w.heap.size (fdText ((l.take k).map swD)) wy ∧ wy.heap[wr.heap.size]? = some (.cells #[.string xw, .slice xA xn xc] 42 (0, 0)) ∧ RI 3 wy xA xn xs ∧ Below w.heap.size w wy) (fun _ _ i _ => xn - (intOf i).toNat)
      case atStart => exact ⟨0, Nat.zero_le _, rfl, World.ownsRow_nil _ _ _ _, hBd1, hn0, hI1, hB1⟩
      case round =>
        clear hBd1 hn0 hI1 hB1 hBn
        rename World => wy
        obtain ⟨q, hq, rfl, hown, hBd, hbx, hI, hB2⟩ := hrel
        by_cases hlq : q < xn
        · obtain ⟨b6, o6, y, rfl, hl6, hy, cs⟩ := hI.at_ (k := q) hlq
          have hyb := hxb.2 y (List.mem_of_getElem? hy)
          have hit := Lib.hid (itoa_c y wy (hTb.out _ hB2) (by omega) (by omega))
          have hst := Lib.hid (show ((xs.take (q + 1)).map itoaS).map Value.string = ((xs.take q).map itoaS).map Value.string ++ [.string (itoaS y)] by rw [List.take_add_one, hy]; simp)
          clear hy
          generalize itoaS y = I9 at *
          go_wp2_with fail
          refine hit.out.mono ?_; rintro e w5 ⟨rfl, B5⟩
          have hown5 := own_below hown B5
          have hBd5 := hBd.below B5
          have hbx5 := blk_below hbx B5
          have hI5 := hI.below B5
          have hB5 := below_next hB2 B5
          have hz5 := hB5.size
          clear hit hown hBd hbx hI hB2 B5 cs
          go_wp2_with (at_builtin; refine wpList_app rfl (.tmp 22) (.tmp 25) 84 rfl Tryz.underlying84 info_strU rfl (by omega) (by omega) hown5 rfl rfl (by first | rfl | (simp; done)) rfl (by simp [Value.oneCell']) (by omega) hz5 ?_; intro v6 w6 hown6 hg6)
          have hB6 := below_own hB5 hown5 hg6 hz5 (Nat.le_refl _)
          have hBd6 := hBd5.grown hown5 hg6
          have hbx6 := (keep_row hown5 hg6) _ _ _ _ (by decide) hbx5
          have hI6 := hI5.keep (T := 9) (by decide) (keep_row hown5 hg6)
          go_roundw
          case rel => exact ⟨q + 1, by omega, by go_num, by rw [hst.out]; exact hown6, hBd6, hbx6, hI6, hB6⟩
          case measure => simp [intOf]; omega
        · obtain rfl : q = xn := by omega
          rw [show (xs.take q) = xs from List.take_of_length_le (by rw [hI.len]; exact Nat.le_refl _)] at hown
          obtain ⟨A6, c6, rfl⟩ := own_shape hown
          have hcap : q ≤ c6 := by
            rcases hown.2 with ⟨h1, h2, _⟩ | ⟨g9, cap9, cur9, h1, h2⟩
            · injection h1 with _ h3 h4; omega
            · injection h1 with h1 h3 h4; have := h2.2.2.1; omega
          have hRS : RS 9 wy A6 q (xs.map itoaS) := R1.of_own hown (by omega)
          have hLn := hL1.out
          rw [hAk.out] at hLn
          simp only [List.length_append, List.length_cons, List.length_nil] at hLn
          have hJ := Lib.hid (fun W h => joinR_c A6 q c6 (xs.map itoaS) 44 W h hcap (by rw [words_L]; omega))
          rw [words_L] at hJ
          have hJs : (⟨(Lib.join (xs.map itoa) [44]).toArray⟩ : ByteArray).size = (Lib.join (xs.map itoa) [44]).length := by show (Lib.join (xs.map itoa) [44]).toArray.size = _; simp
          have hxs := Lib.size_eq xw
          obtain ⟨J, hJe⟩ : ∃ J, (⟨(Lib.join (xs.map itoa) [44]).toArray⟩ : ByteArray) = J := ⟨_, rfl⟩
          have hJd : J.data.toList = Lib.join (xs.map itoa) [44] := by rw [← hJe]
          rw [hJe] at hJ hJs
          have hEq := Lib.hid (show fdText ((l.take k).map swD) ++ (xw ++ ⟨#[32]⟩ ++ J ++ ⟨#[10]⟩).data.toList = fdText ((l.take (k + 1)).map swD) from by rw [hAk.out]; simp [hJd])
          have hsz9 : (xw ++ (⟨#[32]⟩ : ByteArray) ++ J ++ (⟨#[10]⟩ : ByteArray)).size = xw.size + 1 + J.size + 1 := by simp only [ByteArray.size_append]; rfl
          have hlen9 : (fdText ((l.take k).map swD)).length + (xw ++ (⟨#[32]⟩ : ByteArray) ++ J ++ (⟨#[10]⟩ : ByteArray)).size ≤ 1000000 := by rw [hsz9]; omega
          have hW := Lib.hid (fun W (h : Bd w.heap.size w.heap.size (fdText ((l.take k).map swD)) W) hB => wsB_c w.heap.size w.heap.size _ (xw ++ ⟨#[32]⟩ ++ J ++ ⟨#[10]⟩) W h hlen9 hB)
          rw [hEq.out] at hW
          have s1 : ¬ 9223372036854775807 < xw.size + 1 := by omega
          have s2 : ¬ 9223372036854775807 < xw.size + 1 + J.size := by omega
          have s3 : ¬ 9223372036854775807 < xw.size + 1 + J.size + 1 := by omega
          have hbxd : wy.drew.heap[wr.heap.size]? = some (.cells #[.string xw, .slice xA q xc] 42 (0, 0)) := hbx
          have y0 := (blk_facts hbxd).1 0
          have hRSd : RS 9 wy.drew A6 q (xs.map itoaS) := hRS
          have hBdd : Bd w.heap.size w.heap.size (fdText ((l.take k).map swD)) wy.drew := hBd
          have hB2d : Below w.heap.size w wy.drew := below_drewN hB2 1
          have hb5 := Lib.hid (fun W (B : Below wy.drew.heap.size wy.drew W) => (blk_facts (blk_below hbxd B)).1 0)
          have hk9 := Lib.hid (fun W5 W6 (B : Below wy.drew.heap.size wy.drew W5) (hk : Lib.OthersKept 5 (some w.heap.size) W5 W6) => show W6.cell? ⟨wr.heap.size, 0, none⟩ = some (.string xw) from (blk_facts (hk _ _ (blk_below hbxd B) (fun e => hneq.out (Option.some.inj e)) (fun c fz e => by injection e with _ e; exact absurd e (by decide)))).1 0)
          have hb6 := Lib.hid (fun W (B : Below wy.drew.heap.size wy.drew W) => And.intro (hBdd.below B) (below_next hB2d B))
          clear hbx hRS hBd hB2 hI hown hcap hLn hAk hL1 hEq hJe hJd hsz9 hlen9 hxs hJs
          generalize xs.map itoaS = WS at *
          go_wp2_with fail
          go_region_held3 (fun w' => w'.cell? ⟨wr.heap.size, 0, none⟩ = some (.string xw)) (first | go_keep | with_reducible exact y0 | with_reducible exact y5 | with_reducible exact y6)
            (first
              | (go_at_call 46; with_reducible refine (hJ.out _ hRSd).mono ?_; rintro e w5 ⟨rfl, B5⟩; have y5 := hb5.out _ B5; have hq5 := hb6.out _ B5)
              | (go_at_call 45; with_reducible refine (hW.out _ hq5.1 hq5.2.size).mono ?_; rintro e w6 ⟨rfl, hBd6, B6, hk6⟩; have y6 := hk9.out _ _ B5 hk6))
          have hB6 := hq5.2.trans B6
          go_wp2
          go_roundw
          case rel => exact ⟨k + 1, by omega, by go_num, hBd6, hB6⟩
          case measure => simp [intOf]; omega
    · obtain rfl : k = n := by omega
      have hSt := Lib.hid (strB_c w.heap.size w.heap.size _ wr hBd hB.size)
      rw [hEnd.out] at hSt
      clear hBd hEnd
      go_wp2_with fail
      refine hSt.out.mono ?_; rintro e w9 ⟨rfl, B9⟩
      have hB9 := hB.trans B9
      go_wp2
      go_ret
      exact ⟨rfl, hB9⟩
set_option maxHeartbeats 6400000 in
set_option maxRecDepth 100000 in
theorem raceText_c (r : Race) (A : Option Addr) (n c : Nat) (l : List Sw) (w : World) (h : RSw w A n l) (hT : Tb w) (hS : (fdText (l.map swD)).length ≤ 200000) (hx : ∀ x ∈ l, x.n ≤ 1000 ∧ ∀ y ∈ x.sp, 0 ≤ y ∧ y ≤ 999999) (h0 : fieldErr r l = 0) :
    Calls Tryz.prog 9 #[r.val, .slice A n c] w fun e w' => e = .returned (.tuple #[.string ⟨(fdText (l.map swD)).toArray⟩, .int .i64 0]) ∧ Below w.heap.size w w' := by
  have hCF := Lib.hid (fun W h => checkField_c r A n c l W h)
  rw [h0] at hCF
  have hb0 := heap_alloc_new w (.cells r.cells 27)
  have hB0 := below_new w (.cells r.cells 27)
  have h1 := h.below hB0
  have hT1 := hT.below hB0
  clear h0 h hT
  obtain ⟨T, hTx0⟩ : ∃ T, fdText (l.map swD) = T := ⟨_, rfl⟩
  rw [hTx0] at hS
  rw [hTx0]
  have hTx0' := Lib.hid hTx0
  clear hTx0
  obtain ⟨key, metres, stroke, course, legs, sex, young, old⟩ := r
  dsimp only [Race.val, Race.cells] at *
  have z0 := (blk_facts hb0).1 0
  have z1 := (blk_facts hb0).1 1
  have z2 := (blk_facts hb0).1 2
  have z3 := (blk_facts hb0).1 3
  have z4 := (blk_facts hb0).1 4
  have z5 := (blk_facts hb0).1 5
  have z6 := (blk_facts hb0).1 6
  have z7 := (blk_facts hb0).1 7
  go_enter Tryz.func9, Tryz.ntmps9
  go_wp2_with fail
  refine (hCF.out _ h1).mono ?_; rintro e wS ⟨rfl, B1⟩
  have h := h1.below B1
  have hT := hT1.below B1
  have hBS := below_next hB0 B1
  have hRet := Lib.hid (fun W (B : Below wS.heap.size wS W) => below_next hBS B)
  have hTle := hS
  clear hCF hb0 hB0 h1 hT1 B1 hBS z0 z1 z2 z3 z4 z5 z6 z7
  have hl := h.1.len
  have hbd := h.1.bd
  have hR := Lib.hid (fun W (B : Below wS.heap.size wS W) => h.below B)
  have hTb := Lib.hid (fun W (B : Below wS.heap.size wS W) => hT.below B)
  have hx' := Lib.hid hx
  have hAt := Lib.hid (fun (k : Nat) x (h : l[k]? = some x) => fdText_at h)
  have hLe := Lib.hid (fun (k : Nat) => show (fdText ((l.take k).map swD)).length ≤ 900000 by rw [List.map_take]; exact Nat.le_trans (fdText_le _ k) (by rw [hTx0'.out]; omega))
  have hEnd := Lib.hid (show fdText ((l.take n).map swD) = fdText (l.map swD) by rw [List.take_of_length_le (by omega)])
  have hB0 := below_new wS (.cells #[.pointer none, .slice none 0 0] 83)
  have hb0 := Bd.start (w := wS)
  rw [hTx0'.out] at hEnd
  clear hx hS h hT hTx0'
  go_wp2_with fail
  generalize wS.alloc (.cells #[.pointer none, .slice none 0 0] 83) = w1' at *
  go_loopw [9, 10, 12, 21] (fun _ _ _ i wr => ∃ k : Nat, k ≤ n ∧ i = .int .i64 k ∧ Bd wS.heap.size wS.heap.size (fdText ((l.take k).map swD)) wr ∧ Below wS.heap.size wS wr) (fun _ _ _ i _ => n - (intOf i).toNat)
  case atStart => exact ⟨0, Nat.zero_le _, rfl, hb0, hB0⟩
  case round =>
    clear hb0 hB0
    rename World => wr
    obtain ⟨k, hk, rfl, hBd, hB⟩ := hrel
    by_cases hlt : k < n
    · obtain ⟨bs, os, x, rfl, hbl, hxk, c0, c1, hI⟩ := (hR.out _ hB).at2 hlt
      have hxb := hx'.out x (List.mem_of_getElem? hxk)
      have hAk := Lib.hid (hAt.out k x hxk)
      have hL1 := Lib.hid (hLe.out (k + 1))
      obtain ⟨xw, xA, xn, xc, xs⟩ := x
      dsimp only at *
      have hn0 := heap_alloc_new wr (.cells #[.string xw, .slice xA xn xc] 42)
      have hBn := below_new wr (.cells #[.string xw, .slice xA xn xc] 42)
      have y1 := (blk_facts hn0).1 1
      have hneq := Lib.hid (show wr.heap.size ≠ wS.heap.size by obtain ⟨cs, hcs⟩ := hBd.blk; have := lt_of_heap hcs; omega)
      have hBd1 := hBd.below hBn
      have hB1 := below_next hB hBn
      have hI1 := hI.below hBn
      clear hxk hBd
      go_wp2_with fail
      generalize wr.alloc (.cells #[.string xw, .slice xA xn xc] 42) = w3 at *
      clear y1
      go_loopw [10, 12, 28] (fun u _ i wy => ∃ q : Nat, q ≤ xn ∧ i = .int .i64 q ∧ wy.ownsRow wS.heap.size 9 1 u q (((xs.take q).map itoaS).map Value.string) ∧ Bd wS.heap.size wS.heap.size (fdText ((l.take k).map swD)) wy ∧ wy.heap[wr.heap.size]? = some (.cells #[.string xw, .slice xA xn xc] 42 (0, 0)) ∧ RI 3 wy xA xn xs ∧ Below wS.heap.size wS wy) (fun _ _ i _ => xn - (intOf i).toNat)
      case atStart => exact ⟨0, Nat.zero_le _, rfl, World.ownsRow_nil _ _ _ _, hBd1, hn0, hI1, hB1⟩
      case round =>
        clear hBd1 hn0 hI1 hB1 hBn
        rename World => wy
        obtain ⟨q, hq, rfl, hown, hBd, hbx, hI, hB2⟩ := hrel
        by_cases hlq : q < xn
        · obtain ⟨b6, o6, y, rfl, hl6, hy, cs⟩ := hI.at_ (k := q) hlq
          have hyb := hxb.2 y (List.mem_of_getElem? hy)
          have hit := Lib.hid (itoa_c y wy (hTb.out _ hB2) (by omega) (by omega))
          have hst := Lib.hid (show ((xs.take (q + 1)).map itoaS).map Value.string = ((xs.take q).map itoaS).map Value.string ++ [.string (itoaS y)] by rw [List.take_add_one, hy]; simp)
          clear hy
          generalize itoaS y = I9 at *
          go_wp2_with fail
          refine hit.out.mono ?_; rintro e w5 ⟨rfl, B5⟩
          have hown5 := own_below hown B5
          have hBd5 := hBd.below B5
          have hbx5 := blk_below hbx B5
          have hI5 := hI.below B5
          have hB5 := below_next hB2 B5
          have hz5 := hB5.size
          clear hit hown hBd hbx hI hB2 B5 cs
          go_wp2_with (at_builtin; refine wpList_app rfl (.tmp 32) (.tmp 35) 84 rfl Tryz.underlying84 info_strU rfl (by omega) (by omega) hown5 rfl rfl (by first | rfl | (simp; done)) rfl (by simp [Value.oneCell']) (by omega) hz5 ?_; intro v6 w6 hown6 hg6)
          have hB6 := below_own hB5 hown5 hg6 hz5 (Nat.le_refl _)
          have hBd6 := hBd5.grown hown5 hg6
          have hbx6 := (keep_row hown5 hg6) _ _ _ _ (by decide) hbx5
          have hI6 := hI5.keep (T := 9) (by decide) (keep_row hown5 hg6)
          go_roundw
          case rel => exact ⟨q + 1, by omega, by go_num, by rw [hst.out]; exact hown6, hBd6, hbx6, hI6, hB6⟩
          case measure => simp [intOf]; omega
        · obtain rfl : q = xn := by omega
          rw [show (xs.take q) = xs from List.take_of_length_le (by rw [hI.len]; exact Nat.le_refl _)] at hown
          obtain ⟨A6, c6, rfl⟩ := own_shape hown
          have hcap : q ≤ c6 := by
            rcases hown.2 with ⟨h1, h2, _⟩ | ⟨g9, cap9, cur9, h1, h2⟩
            · injection h1 with _ h3 h4; omega
            · injection h1 with h1 h3 h4; have := h2.2.2.1; omega
          have hRS : RS 9 wy A6 q (xs.map itoaS) := R1.of_own hown (by omega)
          have hLn := hL1.out
          rw [hAk.out] at hLn
          simp only [List.length_append, List.length_cons, List.length_nil] at hLn
          have hJ := Lib.hid (fun W h => joinR_c A6 q c6 (xs.map itoaS) 44 W h hcap (by rw [words_L]; omega))
          rw [words_L] at hJ
          have hJs : (⟨(Lib.join (xs.map itoa) [44]).toArray⟩ : ByteArray).size = (Lib.join (xs.map itoa) [44]).length := by show (Lib.join (xs.map itoa) [44]).toArray.size = _; simp
          have hxs := Lib.size_eq xw
          obtain ⟨J, hJe⟩ : ∃ J, (⟨(Lib.join (xs.map itoa) [44]).toArray⟩ : ByteArray) = J := ⟨_, rfl⟩
          have hJd : J.data.toList = Lib.join (xs.map itoa) [44] := by rw [← hJe]
          rw [hJe] at hJ hJs
          have hEq := Lib.hid (show fdText ((l.take k).map swD) ++ (xw ++ ⟨#[32]⟩ ++ J ++ ⟨#[10]⟩).data.toList = fdText ((l.take (k + 1)).map swD) from by rw [hAk.out]; simp [hJd])
          have hsz9 : (xw ++ (⟨#[32]⟩ : ByteArray) ++ J ++ (⟨#[10]⟩ : ByteArray)).size = xw.size + 1 + J.size + 1 := by simp only [ByteArray.size_append]; rfl
          have hlen9 : (fdText ((l.take k).map swD)).length + (xw ++ (⟨#[32]⟩ : ByteArray) ++ J ++ (⟨#[10]⟩ : ByteArray)).size ≤ 1000000 := by rw [hsz9]; omega
          have hW := Lib.hid (fun W (h : Bd wS.heap.size wS.heap.size (fdText ((l.take k).map swD)) W) hB => wsB_c wS.heap.size wS.heap.size _ (xw ++ ⟨#[32]⟩ ++ J ++ ⟨#[10]⟩) W h hlen9 hB)
          rw [hEq.out] at hW
          have s1 : ¬ 9223372036854775807 < xw.size + 1 := by omega
          have s2 : ¬ 9223372036854775807 < xw.size + 1 + J.size := by omega
          have s3 : ¬ 9223372036854775807 < xw.size + 1 + J.size + 1 := by omega
          have hbxd : wy.drew.heap[wr.heap.size]? = some (.cells #[.string xw, .slice xA q xc] 42 (0, 0)) := hbx
          have y0 := (blk_facts hbxd).1 0
          have hRSd : RS 9 wy.drew A6 q (xs.map itoaS) := hRS
          have hBdd : Bd wS.heap.size wS.heap.size (fdText ((l.take k).map swD)) wy.drew := hBd
          have hB2d : Below wS.heap.size wS wy.drew := below_drewN hB2 1
          have hb5 := Lib.hid (fun W (B : Below wy.drew.heap.size wy.drew W) => (blk_facts (blk_below hbxd B)).1 0)
          have hk9 := Lib.hid (fun W5 W6 (B : Below wy.drew.heap.size wy.drew W5) (hk : Lib.OthersKept 5 (some wS.heap.size) W5 W6) => show W6.cell? ⟨wr.heap.size, 0, none⟩ = some (.string xw) from (blk_facts (hk _ _ (blk_below hbxd B) (fun e => hneq.out (Option.some.inj e)) (fun c fz e => by injection e with _ e; exact absurd e (by decide)))).1 0)
          have hb6 := Lib.hid (fun W (B : Below wy.drew.heap.size wy.drew W) => And.intro (hBdd.below B) (below_next hB2d B))
          clear hbx hRS hBd hB2 hI hown hcap hLn hAk hL1 hEq hJe hJd hsz9 hlen9 hxs hJs
          generalize xs.map itoaS = WS at *
          go_wp2_with fail
          go_region_held3 (fun w' => w'.cell? ⟨wr.heap.size, 0, none⟩ = some (.string xw)) (first | go_keep | with_reducible exact y0 | with_reducible exact y5 | with_reducible exact y6)
            (first
              | (go_at_call 46; with_reducible refine (hJ.out _ hRSd).mono ?_; rintro e w5 ⟨rfl, B5⟩; have y5 := hb5.out _ B5; have hq5 := hb6.out _ B5)
              | (go_at_call 45; with_reducible refine (hW.out _ hq5.1 hq5.2.size).mono ?_; rintro e w6 ⟨rfl, hBd6, B6, hk6⟩; have y6 := hk9.out _ _ B5 hk6))
          have hB6 := hq5.2.trans B6
          go_wp2
          go_roundw
          case rel => exact ⟨k + 1, by omega, by go_num, hBd6, hB6⟩
          case measure => simp [intOf]; omega
    · obtain rfl : k = n := by omega
      have hLe2 := hLe.out k
      rw [hEnd.out] at hLe2
      have hBd2 := hBd
      rw [hEnd.out] at hBd2
      have hLen := Lib.hid (Any.Builder_Len_f Tryz.lays170 wS.heap.size wS.heap.size _ wr hBd2)
      rw [Lib.byteCells_length] at hLen
      have hSt := Lib.hid (strB_c wS.heap.size wS.heap.size _ wr hBd2 hB.size)
      have hT2 := hTle
      have hT3 : ¬ (200000 : Int) < (T.length : Int) := by omega
      clear hBd hBd2 hEnd hLe2
      go_wp2_with fail
      refine hLen.out.mono ?_; rintro e w8 ⟨rfl, rfl⟩
      go_wp2_with fail
      refine hSt.out.mono ?_; rintro e w9 ⟨rfl, B9⟩
      have hB9 := hRet.out _ (hB.trans B9)
      go_wp2
      go_ret2
      exact ⟨rfl, hB9⟩
end Go.Proofs.YtamcmehmcbjgjaaGreatDoor
