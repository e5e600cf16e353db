/- pad.touches, tumbref1.hundredths, pad.Touches, tumbref1.TouchesOf. Printed by wip/genpadf.py. -/
import Derived.Test.YtmfebjeddgigmaaGreatDoorPadE
namespace Go.Proofs.YtmfebjeddgigmaaGreatDoor
open Go.RowKit Go.Shelf Go.Lib Go.Sort
set_option linter.unusedVariables false

theorem own_base {w : World} {base base' n size : Nat} {e : TypeId} {v : Value} {xs : List Value} (h : w.ownsRow base e size v n xs) (hb : base' ≤ base) : w.ownsRow base' e size v n xs :=
  ⟨h.1, h.2.imp id (fun ⟨g, cap, cur, hv, hbg, hr⟩ => ⟨g, cap, cur, hv, Nat.le_trans hb hbg, hr⟩)⟩
/-- the hundredths after a start that are times -/
def huGo (s0 : Int) : List Td → List Int
  | [] => []
  | x :: r => if (x.tm - s0).tdiv 10 ≤ 360000 then (x.tm - s0).tdiv 10 :: huGo s0 r else huGo s0 r
theorem huGo_at {s0 : Int} {l : List Td} {k : Nat} {x : Td} (h : l[k]? = some x) : huGo s0 (l.drop k) = if (x.tm - s0).tdiv 10 ≤ 360000 then (x.tm - s0).tdiv 10 :: huGo s0 (l.drop (k + 1)) else huGo s0 (l.drop (k + 1)) := by rw [drop_at h]; rfl
theorem huGo_len (s0 : Int) : ∀ l : List Td, (huGo s0 l).length ≤ l.length
  | [] => Nat.le_refl _
  | x :: r => by
    have := huGo_len s0 r
    unfold huGo
    split <;> (simp only [List.length_cons]; omega)
def touV (cl : List Ck) (l : List Sg) (H : Nat) (lane : Int) : List Int := Lib.compact (huGo (s0V cl l H) (tdL cl l H lane 2))
theorem touV_len (cl : List Ck) (l : List Sg) (H : Nat) (lane : Int) : (touV cl l H lane).length ≤ l.length :=
  Nat.le_trans (Lib.compact_length_le _) (Nat.le_trans (huGo_len _ _) (tdL_len _ _ _ _ _))
theorem tdL_bd (cl : List Ck) (l : List Sg) (H : Nat) (lane kind : Int) : ∀ x ∈ tdL cl l H lane kind, 0 ≤ x.tm ∧ x.tm ≤ 345686399999 := by
  intro x hx
  unfold tdL at hx
  have hS : SWO (ltOf tdCf) := by
    refine ⟨fun a => ?_, fun a b c => ?_, fun a b c => ?_⟩ <;> unfold ltOf tdCf Lib.compareInt <;> intros <;> (simp at *) <;> (try omega)
    all_goals (repeat' split at *) <;> (try omega) <;> simp_all <;> omega
  have h1 := (insL_spec hS (lnGo cl (startsV cl l) H lane kind l)).1.subset hx
  have h2 : ∀ (l : List Sg) (S : List Int), x ∈ lnGo cl S H lane kind l → 0 ≤ x.tm ∧ x.tm ≤ 345686399999 := by
    intro l S
    induction l with
    | nil => intro h; cases h
    | cons y r ih =>
      intro h
      unfold lnGo at h
      split at h
      · rcases List.mem_cons.1 h with rfl | h
        · exact rightV_bd cl _ _
        · exact ih h
      · exact ih h
  exact h2 _ _ h1
set_option maxHeartbeats 3200000 in
set_option maxRecDepth 100000 in
theorem padTouches_c (Ac : Option Addr) (nc cc : Nat) (cl : List Ck) (A : Option Addr) (n c : Nat) (l : List Sg) (w : World) (hc : RCk w Ac nc cl) (h : RSg w A n l) (hcb : CkBd cl) (hsb : SgBd l) (hn : n ≤ 19) (H : Nat) (h1 : 1 ≤ H) (h2 : H ≤ (startsV cl l).length) (lane : Int) :
    Calls Tryz.prog 118 #[.slice Ac nc cc, .slice A n c, .int .i64 H, .int .i64 lane] w (RetI w (touV cl l H lane)) := by
  have hP := Lib.hid (padSignals_c Ac nc cc cl A n c l w hc h hcb hsb hn H h1 h2 lane 2)
  have hV := Lib.hid (show touV cl l H lane = Lib.compact (huGo (s0V cl l H) (tdL cl l H lane 2)) from rfl)
  have hTl := tdL_len cl l H lane 2
  rw [h.len] at hTl
  generalize touV cl l H lane = V at *
  generalize tdL cl l H lane 2 = T at *
  generalize s0V cl l H = sx at *
  have hGa := Lib.hid (fun k x (h : T[k]? = some x) => huGo_at (s0 := sx) h)
  have hG0 := Lib.hid (show huGo sx [] = [] from rfl)
  have hGl := huGo_len sx T
  generalize huGo sx = SG at *
  clear h hc hcb hsb h2
  go_enter Tryz.func118, Tryz.ntmps118
  go_wp2_with fail
  refine hP.out.mono ?_; rintro e w1 ⟨A1, cz, rfl, hR1, B1⟩
  have hRk := Lib.hid (fun W (B : Below w1.heap.size w1 W) => hR1.below B)
  have hO0 := IL.start w1
  clear hP hR1
  go_wp2_with fail
  go_loopw [9, 18] (fun out i wr => ∃ (k : Nat) (acc : List Int), k ≤ T.length ∧ i = .int .i64 k ∧ IL w1 out acc wr ∧ acc.length ≤ k ∧ Hid (acc ++ SG (T.drop k) = SG T)) (fun _ i _ => T.length - (intOf i).toNat)
  case atStart => exact ⟨0, [], Nat.zero_le _, rfl, hO0, Nat.le_refl _, Lib.hid rfl⟩
  case round =>
    clear hO0
    obtain ⟨k, acc, hk, rfl, hI, hac, hF⟩ := hrel
    by_cases hlt : k < T.length
    · obtain ⟨b, off, x, rfl, hbl, hx, hcs⟩ := (hRk.out _ hI.bel).at_ hlt
      have c0 : wr.cell? ⟨b, off + k * 8, none⟩ = some (.string x.x.dev) := hcs 0 _ rfl
      have c1 := hcs 1 _ rfl
      have c2 := hcs 2 _ rfl
      have c3 := hcs 3 _ rfl
      have c4 := hcs 4 _ rfl
      have c5 := hcs 5 _ rfl
      have c6 := hcs 6 _ rfl
      have c7 := hcs 7 _ rfl
      have hS := Lib.hid (hGa.out k x hx)
      have hmw := hI.bel.size
      have hlti : (k : Int) < (T.length : Nat) := by omega
      clear hx hcs
      obtain ⟨⟨dev, no, kd, tm, ln, time⟩, at9⟩ := x
      dsimp only at *
      have hIn := hI.below (below_new wr (.cells #[.string dev, .int .i64 no, .int .i64 kd, .int .i64 tm, .int .i64 ln, .int .i64 time, .int .i64 at9, .int .i64 ((at9 - sx).tdiv 10)] 270))
      generalize (at9 - sx).tdiv 10 = hu at *
      by_cases hle : hu ≤ 360000
      · have hS2 := Lib.hid (show acc ++ [hu] ++ SG (T.drop (k + 1)) = SG T by rw [← hF.out, hS.out, if_pos hle, List.append_assoc]; rfl)
        have hown := Lib.hid hIn.own
        have hz := hIn.bel.size
        have hmw2 : w1.heap.size ≤ wr.heap.size + 1 := by omega
        clear hS hF hI
        go_wp2_with (at_builtin; refine wpList_app rfl (.tmp 25) (.tmp 28) 22 rfl Tryz.underlying22 info_int rfl (by omega) (by omega) hown.out rfl rfl (by first | rfl | (simp; done)) (by rfl) (by simp [Value.oneCell']) (by omega) hz ?_; intro v7 w7 hown7 hg7)
        have hI7 := hIn.app hown7 hg7
        clear hIn hown7 hg7 hown
        go_roundw
        case rel => exact ⟨k + 1, _, by omega, by go_num, hI7, by rw [List.length_append]; simp; omega, hS2⟩
        case measure => simp [intOf]; omega
      · have hS2 := Lib.hid (show acc ++ SG (T.drop (k + 1)) = SG T by rw [← hF.out, hS.out, if_neg hle])
        clear hS hF hI
        go_wp2
        go_roundw
        case rel => exact ⟨k + 1, acc, by omega, by go_num, hIn, by omega, hS2⟩
        case measure => simp [intOf]; omega
    · obtain rfl : k = T.length := by omega
      have hA : Hid (acc = SG T) := Lib.hid (by rw [← hF.out, drop_end (Nat.le_refl _), hG0.out, List.append_nil])
      obtain ⟨A', c', rfl⟩ := own_shape hI.own
      have hbel := hI.bel
      have hown := Lib.hid hI.own
      have hC1 := Lib.hid (compactAny_c w1.heap.size A' acc.length c' acc wr hown.out (by omega))
      rw [hA.out, ← hV.out] at hC1
      rw [hA.out] at hown
      rw [hA.out]
      clear hF hI hV hA
      generalize (SG T).length = m at *
      go_wp2_with fail
      refine hC1.out.mono ?_; rintro e w7 ⟨rfl, ho7, hg7⟩
      have hb7 := below_next B1 (below_own hbel hown.out hg7 hbel.size (Nat.le_refl _))
      have ho8 := own_base ho7 B1.size
      clear hC1 hg7 ho7 hown
      go_wp2
      go_ret
      exact ⟨A', c', rfl, ho8, hb7⟩
set_option maxHeartbeats 3200000 in
set_option maxRecDepth 100000 in
theorem hundredths_c (Ac : Option Addr) (nc cc : Nat) (cl : List Ck) (A : Option Addr) (n c : Nat) (l : List Sg) (w : World) (hc : RCk w Ac nc cl) (h : RSg w A n l) (hcb : CkBd cl) (hsb : SgBd l) (hn : n ≤ 19) (H : Nat) (h1 : 1 ≤ H) (h2 : H ≤ (startsV cl l).length) (lane : Int) :
    Calls Tryz.prog 120 #[.slice Ac nc cc, .slice A n c, .int .i64 2, .int .i64 H, .int .i64 lane] w (RetI w (touV cl l H lane)) := by
  have hSt := Lib.hid (startsOf_c Ac nc cc cl A n c l w hc h hcb hsb (by omega))
  have hP := Lib.hid (fun W (B : Below w.heap.size w W) => ofLane_c Ac nc cc cl A n c l W (hc.below B) (h.below B) hcb hsb hn H lane 2)
  have hV := Lib.hid (show touV cl l H lane = Lib.compact (huGo (s0V cl l H) (tdL cl l H lane 2)) from rfl)
  have hs0 : (startsV cl l)[H - 1]? = some (s0V cl l H) := by unfold s0V; rw [List.getD_eq_getElem?_getD, List.getElem?_eq_getElem (by omega)]; rfl
  have hsb0 := startsV_bd cl l _ (List.mem_of_getElem? hs0)
  have hTb := Lib.hid (tdL_bd cl l H lane 2)
  have hTl := tdL_len cl l H lane 2
  have hSl := startsV_len cl l
  rw [h.len] at hTl hSl
  generalize touV cl l H lane = V at *
  generalize tdL cl l H lane 2 = T at *
  generalize s0V cl l H = sx at *
  generalize startsV cl l = S at *
  have hGa := Lib.hid (fun k x (h : T[k]? = some x) => huGo_at (s0 := sx) h)
  have hG0 := Lib.hid (show huGo sx [] = [] from rfl)
  have hGl := huGo_len sx T
  generalize huGo sx = SG at *
  clear h hc hcb hsb
  have u1 : IntKind.i64.wrap ((H : Int) - 1) = (H : Int) - 1 := IntWalk.i64_in _ (by omega)
  have u2 : 0 ≤ (H : Int) - 1 := by omega
  have u3 : ((H : Int) - 1).toNat = H - 1 := by omega
  have u4 : (H : Int) - 1 < (S.length : Nat) := by omega
  have u5 : (1 : Int) ≤ (H : Int) := by omega
  go_enter Tryz.func120, Tryz.ntmps120
  go_wp2_with fail
  refine hSt.out.mono ?_; rintro e w0 ⟨A0, c0, rfl, ho0, B0⟩
  have hR0 := R1.of_own ho0 (by omega)
  obtain ⟨bS, oS, s9, rfl, lS, hsx, cS⟩ := hR0.at_ (k := H - 1) (by omega)
  obtain rfl : s9 = sx := by rw [hs0] at hsx; exact (Option.some.inj hsx).symm
  have hP2 := Lib.hid (hP.out _ B0)
  clear hSt ho0 hR0 hs0 hsx hP
  go_wp2_with fail
  refine hP2.out.mono ?_; rintro e w1 ⟨A1, cz, rfl, hR1, B1'⟩
  have B1 := below_next B0 B1'
  have hRk := Lib.hid (fun W (B : Below w1.heap.size w1 W) => hR1.below B)
  have hO0 := IL.start w1
  clear hP2 hR1 u1 u2 u3 u4 u5 cS B1'
  go_wp2_with fail
  go_loopw [12, 30] (fun out i wr => ∃ (k : Nat) (acc : List Int), k ≤ T.length ∧ i = .int .i64 k ∧ IL w1 out acc wr ∧ acc.length ≤ k ∧ Hid (acc ++ SG (T.drop k) = SG T)) (fun _ i _ => T.length - (intOf i).toNat)
  case atStart => exact ⟨0, [], Nat.zero_le _, rfl, hO0, Nat.le_refl _, Lib.hid rfl⟩
  case round =>
    clear hO0
    obtain ⟨k, acc, hk, rfl, hI, hac, hF⟩ := hrel
    by_cases hlt : k < T.length
    · obtain ⟨b, off, x, rfl, hbl, hx, hcs⟩ := (hRk.out _ hI.bel).at_ hlt
      have c0 : wr.cell? ⟨b, off + k * 7, none⟩ = some (.string x.x.dev) := hcs 0 _ rfl
      have c1 := hcs 1 _ rfl
      have c2 := hcs 2 _ rfl
      have c3 := hcs 3 _ rfl
      have c4 := hcs 4 _ rfl
      have c5 := hcs 5 _ rfl
      have c6 := hcs 6 _ rfl
      have hS := Lib.hid (hGa.out k x hx)
      have hxb := hTb.out x (List.mem_of_getElem? hx)
      have hmw := hI.bel.size
      have hlti : (k : Int) < (T.length : Nat) := by omega
      clear hx hcs
      obtain ⟨⟨dev, no, kd, tm, ln, time⟩, at9⟩ := x
      dsimp only at *
      have hIn := hI.below (below_new wr (.cells #[.string dev, .int .i64 no, .int .i64 kd, .int .i64 tm, .int .i64 ln, .int .i64 time, .int .i64 at9] 238))
      have v1 : IntKind.i64.wrap (at9 - s9) = at9 - s9 := IntWalk.i64_in _ (by omega)
      have v2 : IntKind.i64.wrap ((at9 - s9).tdiv 10) = (at9 - s9).tdiv 10 := IntWalk.i64_in _ (td10_bd (by omega) (by omega))
      by_cases hle : (at9 - s9).tdiv 10 ≤ 360000
      · have hS2 := Lib.hid (show acc ++ [(at9 - s9).tdiv 10] ++ SG (T.drop (k + 1)) = SG T by rw [← hF.out, hS.out, if_pos hle, List.append_assoc]; rfl)
        have hown := Lib.hid hIn.own
        have hz := hIn.bel.size
        have hmw2 : w1.heap.size ≤ wr.heap.size + 1 := by omega
        clear hS hF hI
        go_wp2_with (at_builtin; refine wpList_app rfl (.tmp 41) (.tmp 43) 22 rfl Tryz.underlying22 info_int rfl (by omega) (by omega) hown.out rfl rfl (by first | rfl | (simp; done)) (by rfl) (by simp [Value.oneCell']) (by omega) hz ?_; intro v7 w7 hown7 hg7)
        have hI7 := hIn.app hown7 hg7
        clear hIn hown7 hg7 hown
        go_roundw
        case rel => exact ⟨k + 1, _, by omega, by go_num, hI7, by rw [List.length_append]; simp; omega, hS2⟩
        case measure => simp [intOf]; omega
      · have hS2 := Lib.hid (show acc ++ SG (T.drop (k + 1)) = SG T by rw [← hF.out, hS.out, if_neg hle])
        clear hS hF hI
        go_wp2
        go_roundw
        case rel => exact ⟨k + 1, acc, by omega, by go_num, hIn, by omega, hS2⟩
        case measure => simp [intOf]; omega
    · obtain rfl : k = T.length := by omega
      have hA : Hid (acc = SG T) := Lib.hid (by rw [← hF.out, drop_end (Nat.le_refl _), hG0.out, List.append_nil])
      obtain ⟨A', c', rfl⟩ := own_shape hI.own
      have hbel := hI.bel
      have hown := Lib.hid hI.own
      have hC1 := Lib.hid (compactAny_c w1.heap.size A' acc.length c' acc wr hown.out (by omega))
      rw [hA.out, ← hV.out] at hC1
      rw [hA.out] at hown
      rw [hA.out]
      clear hF hI hV hA
      generalize (SG T).length = m at *
      go_wp2_with fail
      refine hC1.out.mono ?_; rintro e w7 ⟨rfl, ho7, hg7⟩
      have hb7 := below_next B1 (below_own hbel hown.out hg7 hbel.size (Nat.le_refl _))
      have ho8 := own_base ho7 B1.size
      clear hC1 hg7 ho7 hown
      go_wp2
      go_ret
      exact ⟨A', c', rfl, ho8, hb7⟩
theorem touchesOf_c (Ac : Option Addr) (nc cc : Nat) (cl : List Ck) (A : Option Addr) (n c : Nat) (l : List Sg) (w : World) (hc : RCk w Ac nc cl) (h : RSg w A n l) (hcb : CkBd cl) (hsb : SgBd l) (hn : n ≤ 19) (H : Nat) (h1 : 1 ≤ H) (h2 : H ≤ (startsV cl l).length) (lane : Int) :
    Calls Tryz.prog 27 #[.slice Ac nc cc, .slice A n c, .int .i64 H, .int .i64 lane] w (RetI w (touV cl l H lane)) := by
  have hP := Lib.hid (hundredths_c Ac nc cc cl A n c l w hc h hcb hsb hn H h1 h2 lane)
  clear hc h hcb hsb h2
  go_enter Tryz.func27, Tryz.ntmps27
  go_wp2_with fail
  refine hP.out.mono ?_; rintro e w1 ⟨A', c', rfl, ho, hB⟩
  go_wp2
  go_ret
  exact ⟨A', c', rfl, ho, hB⟩
def ttE (cl : List Ck) (l : List Sg) (heat lane : Int) : Int := if bothErr cl l ≠ 0 then bothErr cl l else laneErr cl l heat lane
theorem ttE_ok {cl : List Ck} {l : List Sg} {heat lane : Int} (h : ttE cl l heat lane = 0) : bothErr cl l = 0 ∧ 1 ≤ heat ∧ heat ≤ (startsV cl l).length := by
  unfold ttE at h
  split at h
  · rename_i h1; exact absurd h h1
  · rename_i h1
    unfold laneErr at h
    split at h
    · cases h
    · rename_i h2
      split at h
      · cases h
      · exact ⟨Decidable.not_not.1 h1, by omega, by omega⟩
theorem touches26_c (Ac : Option Addr) (nc cc : Nat) (cl : List Ck) (A : Option Addr) (n c : Nat) (l : List Sg) (heat lane : Int) (w : World) (hc : RCk w Ac nc cl) (h : RSg w A n l) (hn : n ≤ 19) :
    Calls Tryz.prog 24 #[.slice Ac nc cc, .slice A n c, .int .i64 heat, .int .i64 lane] w (RetSt2 w (ttE cl l heat lane) (if ttE cl l heat lane = 0 then touV cl l heat.toNat lane else [])) := by
  have hCh := Lib.hid (show Calls Tryz.prog 117 #[.slice Ac nc cc, .slice A n c, .int .i64 heat, .int .i64 lane] w fun e w' => e = .returned (.int .i64 (ttE cl l heat lane)) ∧ Below w.heap.size w w' from checkHeat_c Ac nc cc cl A n c l heat lane w hc h)
  have hTo := Lib.hid (fun (h0 : ttE cl l heat lane = 0) W (B : Below w.heap.size w W) => show Calls Tryz.prog 118 #[.slice Ac nc cc, .slice A n c, .int .i64 heat, .int .i64 lane] W (RetI W (touV cl l heat.toNat lane)) by
    obtain ⟨k1, k2, k3⟩ := ttE_ok h0
    obtain ⟨m1, m2, m3, m4⟩ := both_ok k1
    have := padTouches_c Ac nc cc cl A n c l W (hc.below B) (h.below B) m1 m2 hn heat.toNat (by omega) (by omega) lane
    rwa [show ((heat.toNat : Nat) : Int) = heat from by omega] at this)
  have htl := touV_len cl l heat.toNat lane
  rw [h.len] at htl
  generalize touV cl l heat.toNat lane = V at *
  generalize ttE cl l heat lane = E at *
  clear hc h
  by_cases h0 : E = 0
  rotate_left
  · have hd : (E != 0) = true := by simpa using h0
    rw [if_neg h0]
    clear h0 hTo
    go_enter Tryz.func24, Tryz.ntmps24
    go_wp2_with fail
    refine hCh.out.mono ?_; rintro e w1 ⟨rfl, B1⟩
    go_wp2
    go_ret2
    exact ⟨none, 0, rfl, R1.nil_ _ _ _ _, B1⟩
  subst h0
  rw [if_pos rfl]
  have hTo2 := Lib.hid (fun W B => hTo.out rfl W B)
  clear hTo
  go_enter Tryz.func24, Tryz.ntmps24
  go_wp2_with fail
  refine hCh.out.mono ?_; rintro e w1 ⟨rfl, B1⟩
  clear hCh
  go_wp2_with fail
  refine (hTo2.out _ B1).mono ?_; rintro e w2 ⟨A1, c1, rfl, ho, hB2⟩
  have hB := below_next B1 hB2
  have hR := R1.of_own ho (by omega)
  clear hTo2 ho B1 hB2
  go_wp2
  go_ret2
  exact ⟨A1, c1, rfl, hR, hB⟩
end Go.Proofs.YtmfebjeddgigmaaGreatDoor
