/- PadsStay: signals and sheets that are handed in stay; what is made of them is new memory: the walk. Printed by wip/mkl34.py (pad.Merge with a row of its own out of MergC). -/
import Derived.Test.YtklggnglaeagpaaGreatDoorRSgH
import Derived.Test.YtklggnglaeagpaaGreatDoorRMergC
import Derived.Test.YtklggnglaeagpaaGreatDoorRFixE
import Derived.Test.YtklggnglaeagpaaGreatDoorRPlainR
import Derived.Test.YtklggnglaeagpaaGreatDoorRReady
import Derived.Deep.DeepCutAuto
namespace Go.Proofs.YtklggnglaeagpaaGreatDoor
open Go.RowKit Go.Shelf Go.Lib Go.Sort
set_option linter.unusedVariables false

def RetMgO (a b : List Sg) (w : World) (e : Ending) (w' : World) : Prop := ∃ (A' : Option Addr) (n' c' : Nat) (out : List Sg) (E : Int), e = .returned (.tuple #[.slice A' n' c', .int .i64 E]) ∧ RSg w' A' n' out ∧ w'.ownsRow w.heap.size 55 6 (.slice A' n' c') n' (out.flatMap sgE) ∧ CapOk A' n' c' ∧ MrgR a b E out ∧ Below w.heap.size w w'
set_option maxHeartbeats 6400000 in
set_option maxRecDepth 100000 in
theorem mergeO34_c (A B : Option Addr) (n c m d : Nat) (a b : List Sg) (w : World) (ha : RSg w A n a) (hb : RSg w B m b) (hn : n ≤ 400) (hm : m ≤ 400) :
    Calls Tryz.prog 25 #[.slice A n c, .slice B m d] w (RetMgO a b w) := by
  have hCk := Lib.hid (fun A n c l w h => checkSignals_c A n c l w h)
  have hRa := Lib.hid (fun W (B : Below w.heap.size w W) => ha.below B)
  have hRb := Lib.hid (fun W (B : Below w.heap.size w W) => hb.below B)
  have hla := Lib.hid ha.len
  have hlb := Lib.hid hb.len
  have hC1 := Lib.hid (checkSignals_c A n c a w ha)
  have hG1 := Lib.hid (fun (h1 : sigErr a ≠ 0) => show MrgR a b (sigErr a) [] from .inl ⟨h1, rfl, rfl⟩)
  have hG2 := Lib.hid (fun (h1 : sigErr a = 0) (h2 : sigErr b ≠ 0) => show MrgR a b (sigErr b) [] from .inr (.inl ⟨h1, h2, rfl, rfl⟩))
  have hG3 := Lib.hid (fun (h1 : sigErr a = 0) (h2 : sigErr b = 0) (h3 : mrg a b = none) => show MrgR a b 13 [] from .inr (.inr ⟨h1, h2, .inl ⟨h3, rfl, rfl⟩⟩))
  have hG4 := Lib.hid (fun (h1 : sigErr a = 0) (h2 : sigErr b = 0) (p s : List Sg) (h3 : mrg a b = some p) (h4 : SgSorted (a ++ p) s) (h5 : sigErr s ≠ 0) => show MrgR a b (sigErr s) [] from .inr (.inr ⟨h1, h2, .inr ⟨p, s, h3, h4, .inl ⟨h5, rfl, rfl⟩⟩⟩))
  have hG5 := Lib.hid (fun (h1 : sigErr a = 0) (h2 : sigErr b = 0) (p s : List Sg) (h3 : mrg a b = some p) (h4 : SgSorted (a ++ p) s) (h5 : sigErr s = 0) => show MrgR a b 0 s from .inr (.inr ⟨h1, h2, .inr ⟨p, s, h3, h4, .inr ⟨h5, rfl, rfl⟩⟩⟩))
  have hso := Lib.hid (fun (h : sigErr a = 0) => (sigErr_sorted h).2)
  have hC2 := Lib.hid (fun W (B' : Below w.heap.size w W) => checkSignals_c B m d b W (hRb.out W B'))
  clear ha hb
  generalize hEa : sigErr a = Ea at *
  generalize hEb : sigErr b = Eb at *
  have hEa' := Lib.hid hEa
  have hEb' := Lib.hid hEb
  clear hEa hEb
  go_enter Tryz.func25, Tryz.ntmps25
  go_wp2_with fail
  refine hC1.out.mono ?_; rintro e w1 ⟨rfl, B1⟩
  by_cases h0 : Ea = 0
  rotate_left
  · have hd : (Ea != 0) = true := by simpa using h0
    have hg := hG1.out h0
    clear h0
    go_wp2
    go_ret2
    exact ⟨none, 0, 0, [], Ea, rfl, RN.nil_ _ _ _ _ _, World.ownsRow_nil _ _ _ _, .inl ⟨rfl, rfl, rfl⟩, hg, B1⟩
  subst h0
  go_wp2_with fail
  refine (hC2.out _ B1).mono ?_; rintro e w2 ⟨rfl, B2⟩
  replace B2 := below_next B1 B2
  clear B1
  by_cases h0 : Eb = 0
  rotate_left
  · have hd : (Eb != 0) = true := by simpa using h0
    have hg := hG2.out (by first | rfl | trivial) h0
    clear h0
    go_wp2
    go_ret2
    exact ⟨none, 0, 0, [], Eb, rfl, RN.nil_ _ _ _ _ _, World.ownsRow_nil _ _ _ _, .inl ⟨rfl, rfl, rfl⟩, hg, B2⟩
  subst h0
  have hs := Lib.hid (hso.out (by first | rfl | trivial))
  go_wp2_with fail
  refine (cloneSg_c A n c a w2 (hRa.out _ B2) (by omega)).mono ?_; rintro e w3 ⟨A3, c3, rfl, own3, B3⟩
  have hB3 := below_next B2 B3
  replace own3 := own_mono own3 B2.size
  clear B2 B3
  go_wp2_with fail
  go_loopw [8, 28] (fun u i wr => ∃ (j : Nat) (P : List Sg), j ≤ m ∧ i = .int .i64 j ∧ wr.ownsRow w.heap.size 55 6 u (n + P.length) ((a ++ P).flatMap sgE) ∧ Below w.heap.size w wr ∧ P.length ≤ j ∧ Hid (mrg a b = (mrg a (b.drop j)).map (P ++ ·))) (fun _ i _ => m - (intOf i).toNat)
  case atStart => exact ⟨0, [], Nat.zero_le _, rfl, by rw [List.append_nil]; exact own3, hB3, Nat.le_refl _, Lib.hid (by rw [List.drop_zero]; simp)⟩
  case round =>
    clear own3 hB3
    rename World => wr
    obtain ⟨j, P, hj, rfl, how, hB, hPj, hF⟩ := hrel
    by_cases hlt : j < m
    · have hlti : (j : Int) < m := by omega
      obtain ⟨b', off, x, rfl, hbl, hx, p0, p1, p2, p3, p4, p5⟩ := RSg_at6 (hRb.out _ hB) hlt
      have hx' := Lib.hid hx
      clear hx
      obtain ⟨dev, no, kind, tm, lane, time⟩ := x
      dsimp only at p0 p1 p2 p3 p4 p5
      have hn0 := heap_alloc_new wr (.cells #[.string dev, .int .i64 no, .int .i64 kind, .int .i64 tm, .int .i64 lane, .int .i64 time] 55)
      have how0 := own_below how (below_new wr (.cells #[.string dev, .int .i64 no, .int .i64 kind, .int .i64 tm, .int .i64 lane, .int .i64 time] 55))
      have hB0 := below_next hB (below_new wr (.cells #[.string dev, .int .i64 no, .int .i64 kind, .int .i64 tm, .int .i64 lane, .int .i64 time] 55))
      have hwz := hB.size
      have hbs := Lib.hid (bsSg_c A n c a ⟨dev, no, kind, tm, lane, time⟩ (wr.alloc (.cells #[.string dev, .int .i64 no, .int .i64 kind, .int .i64 tm, .int .i64 lane, .int .i64 time] 55)) (hRa.out _ hB0) hs.out (by omega))
      dsimp only [sgE] at hbs
      clear how
      go_wp2_with fail
      refine hbs.out.mono ?_; rintro e w6 ⟨⟨k, g, rfl, hg1, hg2⟩, B6⟩
      have hb6 := blk_below hn0 B6
      have how6 := own_below how0 B6
      have hB6 := below_next hB0 B6
      have hz6 : wr.heap.size < w6.heap.size := lt_of_heap hb6
      clear hbs hn0 how0 hB0 B6 p0 p1 p2 p3 p4 p5
      have x0 := (blk_facts hb6).1 0
      have x1 := (blk_facts hb6).1 1
      have x2 := (blk_facts hb6).1 2
      have x3 := (blk_facts hb6).1 3
      have x4 := (blk_facts hb6).1 4
      have x5 := (blk_facts hb6).1 5
      cases g
      · have hnew := Lib.hid (fun (P : List Sg) hF => mrg_new (P := P) hx'.out (hg2 rfl) hF)
        clear hg1 hg2
        have hw6 : w.heap.size ≤ w6.heap.size := hB6.size
        go_wp2_with (at_builtin; refine wpList_app rfl (.tmp 40) (.tmp 42) 50 rfl Tryz.underlying50 info_signal rfl (by omega) (by omega) how6 rfl rfl (by first | rfl | (simp; done)) rfl (by simp [Value.oneCell']) (by omega) hw6 ?_; intro v7 w7 hown7 hg7; have hB7 := below_own hB6 how6 hg7 hw6 (Nat.le_refl _))
        go_roundw
        case rel => exact ⟨j + 1, P ++ [⟨dev, no, kind, tm, lane, time⟩], by omega, by go_num, by rw [← List.append_assoc, flat_app1, List.length_append]; exact hown7, hB7, by rw [List.length_append]; simp; omega, Lib.hid (hnew.out P hF.out)⟩
        case measure => simp [intOf]; omega
      · obtain ⟨y, hy, hyx⟩ := hg1 rfl
        have hk : k < n := by have := lt_of_at hy; rw [hla.out] at this; exact this
        have hym := List.mem_of_getElem? hy
        obtain ⟨b2, off2, y', rfl, hbl2, hy2, q0, q1, q2, q3, q4, q5⟩ := RSg_at6 (hRa.out _ hB6) hk
        obtain rfl : y = y' := by rw [hy] at hy2; exact Option.some.inj hy2
        have hki : (k : Int) < n := by omega
        clear hg1 hg2 hy hy2
        by_cases hxy : y = ⟨dev, no, kind, tm, lane, time⟩
        · subst hxy
          dsimp only at q0 q1 q2 q3 q4 q5
          have hold := Lib.hid (mrg_old hs.out hx'.out hym hF.out)
          clear hyx hym
          go_wp2
          go_quiet (fail)
          go_wp2
          go_roundw
          case rel => exact ⟨j + 1, P, by omega, by go_num, own_below how6 (below_drewN (Below.refl _ _) _), below_drewN hB6 _, by omega, hold⟩
          case measure => simp [intOf]; omega
        · have hbad := Lib.hid (hG3.out (by first | rfl | trivial) (by first | rfl | trivial) (mrg_bad hs.out hx'.out hym hyx hxy hF.out))
          clear hyx hym
          obtain ⟨dev2, no2, kind2, tm2, lane2, time2⟩ := y
          dsimp only at q0 q1 q2 q3 q4 q5
          have hcases : ((dev2.toList == dev.toList) = false) ∨ (dev2 = dev ∧ (((no2 == no) = false) ∨ (no2 = no ∧ (((kind2 == kind) = false) ∨ (kind2 = kind ∧ (((tm2 == tm) = false) ∨ (tm2 = tm ∧ (((lane2 == lane) = false) ∨ (lane2 = lane ∧ ((time2 == time) = false)))))))))) := by
            by_cases q0 : dev2 = dev
            · refine .inr ⟨q0, ?_⟩
              by_cases q1 : no2 = no
              · refine .inr ⟨q1, ?_⟩
                by_cases q2 : kind2 = kind
                · refine .inr ⟨q2, ?_⟩
                  by_cases q3 : tm2 = tm
                  · refine .inr ⟨q3, ?_⟩
                    by_cases q4 : lane2 = lane
                    · refine .inr ⟨q4, ?_⟩
                      exact beq_eq_false_iff_ne.2 (fun q5 => hxy (by rw [q0, q1, q2, q3, q4, q5]))
                    · exact .inl (beq_eq_false_iff_ne.2 q4)
                  · exact .inl (beq_eq_false_iff_ne.2 q3)
                · exact .inl (beq_eq_false_iff_ne.2 q2)
              · exact .inl (beq_eq_false_iff_ne.2 q1)
            · exact .inl (str_neZ q0)
          clear hxy
          rcases hcases with h0 | ⟨rfl, h1 | ⟨rfl, h2 | ⟨rfl, h3 | ⟨rfl, h4 | ⟨rfl, h5⟩⟩⟩⟩⟩
          all_goals
            go_wp2
            go_quiet (fail)
            go_wp2
            go_ret2
            exact ⟨none, 0, 0, [], 13, rfl, RN.nil_ _ _ _ _ _, World.ownsRow_nil _ _ _ _, .inl ⟨rfl, rfl, rfl⟩, hbad.out, below_drewN hB6 _⟩
    · obtain rfl : j = m := by omega
      have hmp := Lib.hid (show mrg a b = some P by
        rw [hF.out, drop_end (by rw [hlb.out]; exact Nat.le_refl _)]
        simp [mrg])
      obtain ⟨A4, c4, rfl⟩ := own_shape how
      have hSo := Lib.hid (sortFSg_c 125 sgCmp_enters (fun x y W => sgCompare_c x y W) (a ++ P) wr w.heap.size (n + P.length) _ how (by omega))
      go_wp2_with fail
      refine hSo.out.mono ?_; rintro e w5 ⟨rfl, s, own5, hs5, g5⟩
      have hB5 := below_own hB how g5 hB.size (Nat.le_refl _)
      have hl5 : s.length = n + P.length := by rw [hs5.1.length_eq, List.length_append, hla.out]
      have hR5 : RSg w5 A4 (n + P.length) s := RN.of_own sgE_len own5 hl5 (by omega)
      have hcp := Lib.hid (capOk_own own5)
      have hoo := Lib.hid own5
      have hC5 := Lib.hid (hCk.out A4 (n + P.length) c4 s w5 hR5)
      have hh4 := Lib.hid (hG4.out (by first | rfl | trivial) (by first | rfl | trivial) P s hmp.out hs5)
      have hh5 := Lib.hid (hG5.out (by first | rfl | trivial) (by first | rfl | trivial) P s hmp.out hs5)
      clear hSo how hB g5 own5 hs5 hl5
      go_wp2_with fail
      refine hC5.out.mono ?_; rintro e w6 ⟨rfl, B6⟩
      have hB6 := below_next hB5 B6
      have hR6 := hR5.below B6
      have ho6 := Lib.hid (own_below hoo.out B6)
      clear hC5 hR5 B6 hB5
      by_cases h0 : sigErr s = 0
      · have hg := Lib.hid (hh5.out h0)
        clear hh4 hh5
        rw [h0]
        clear h0
        go_wp2
        go_ret2
        exact ⟨A4, n + P.length, c4, s, 0, rfl, hR6, ho6.out, hcp.out, hg.out, hB6⟩
      · have hg := Lib.hid (hh4.out h0)
        have hd : (sigErr s != 0) = true := by simpa using h0
        clear hh4 hh5 h0
        generalize sigErr s = E at *
        go_wp2
        go_ret2
        exact ⟨none, 0, 0, [], E, rfl, RN.nil_ _ _ _ _ _, World.ownsRow_nil _ _ _ _, .inl ⟨rfl, rfl, rfl⟩, hg.out, hB6⟩
structure K34 (w : World) (X : World → Prop) (wx : World) : Prop where
  x : X wx
  kp : ∀ a b, X a → Below a.heap.size a b → X b
  bel : Below w.heap.size w wx
section
variable {w wx w' : World} {X Y : World → Prop}
theorem K34.below (h : K34 w X wx) (B : Below wx.heap.size wx w') : K34 w X w' := ⟨h.kp _ _ h.x B, h.kp, below_next h.bel B⟩
theorem K34.drew (h : K34 w X wx) : K34 w X wx.drew := h.below (below_drewN (Below.refl _ _) 1)
theorem K34.drewN (h : K34 w X wx) (n : Nat) : K34 w X (wx.drewN n) := h.below (below_drewN (Below.refl _ _) n)
end
theorem own_cap34 {w : World} {base : Nat} {e : TypeId} {size n c : Nat} {A : Option Addr} {xs : List Value} (h : w.ownsRow base e size (.slice A n c) n xs) (hp : 0 < n) : ∃ g, A = some ⟨g, 0, none⟩ := by
  rcases h.2 with ⟨h1, h2⟩ | ⟨g, cap, cur, h1, _⟩
  · injection h1 with _ h3 _
    omega
  · injection h1 with h1 _ _
    exact ⟨g, h1⟩
/-- a list that is merged with itself -/
theorem mrg_self34 {l out : List Sg} {E : Int} (h0 : sigErr l = 0) (h : MrgR l l E out) : E = 0 := by
  have hs := (sigErr_sorted h0).2
  have hr := mrg_rest hs (b := l) (fun x hx y hy e => key_same hs hy hx e)
  have hn : restB l l = [] := by
    unfold restB
    rw [List.filter_eq_nil_iff]
    intro x hx
    simpa using hx
  rw [hn] at hr
  rcases h with ⟨h1, _⟩ | ⟨_, h1, _⟩ | ⟨_, _, ⟨h1, _⟩ | ⟨p, s, h1, h2, h3⟩⟩
  · exact absurd h0 h1
  · exact absurd h0 h1
  · rw [hr] at h1; cases h1
  · rw [hr] at h1
    injection h1 with h1
    subst h1
    rw [List.append_nil] at h2
    have hsl : l = s := sorted_uniq h2.1.symm hs h2.2
    subst hsl
    rcases h3 with ⟨h3, _⟩ | ⟨_, h3, _⟩
    · exact absurd h0 h3
    · exact h3
theorem rn_one34 {α : Type} {s : Nat} {enc : α → List Value} {T : TypeId} {w : World} {b : Nat} (hs : ∀ x, (enc x).length = s) (x : α) (h : w.heap[b]? = some (.cells (enc x).toArray T (0, 0))) : RN s enc T w (some ⟨b, 0, none⟩) 1 [x] := by
  refine ⟨rfl, by omega, fun _ => ⟨_, 0, _, _, rfl, h, fun j y hy i v hv => ?_⟩⟩
  rcases j with _ | j
  · obtain rfl : x = y := by simpa using hy
    simpa using hv
  · simp at hy
theorem ann34 : keyB ⟨#[97, 110, 110]⟩ = true := by
  decide +kernel
theorem fx34 {key : ByteArray} (h : keyB key = true) : fxErr [(⟨key, 1, 1, 2, 2900, 1, ⟨#[97, 110, 110]⟩⟩ : Fx)] = 0 := by
  have h1 : fx1 ⟨key, 1, 1, 2, 2900, 1, ⟨#[97, 110, 110]⟩⟩ = 0 := by
    unfold fx1
    rw [if_neg (by rw [h, ann34]; simp), if_pos (by dsimp only; omega)]
  unfold fxErr fxGo
  rw [if_neg (by simp), h1, if_neg (by decide), if_neg (by simp [badFx])]
  rfl
theorem fixd34 {r : Race} (h : raceErr r = 0) : fixdErr r [⟨r.key, 1, 1, 2, 2900, 1, ⟨#[97, 110, 110]⟩⟩] 1 [⟨1, [⟨2, 3000, false⟩], 6100, 1⟩] = 0 := by
  unfold fixdErr
  rw [if_neg (by rw [h]; decide), if_neg (by rw [fx34 (raceErr_ok h).1]; decide), if_neg (by decide), if_neg (by decide)]
  rfl
theorem fixdL34 (r : Race) : fixdL r [⟨r.key, 1, 1, 2, 2900, 1, ⟨#[97, 110, 110]⟩⟩] 1 [⟨1, [⟨2, 3000, false⟩], 6100, 1⟩] = [⟨1, [lpPut 2 2900 ⟨2, 3000, false⟩], 6100, 1⟩] := by
  have h1 : actF r.key 1 1 [(⟨r.key, 1, 1, 2, 2900, 1, ⟨#[97, 110, 110]⟩⟩ : Fx)] = [⟨r.key, 1, 1, 2, 2900, 1, ⟨#[97, 110, 110]⟩⟩] := by
    unfold actF
    rw [if_pos (by unfold hitF lastF; simp)]
    rfl
  unfold fixdL
  rw [List.map_cons, List.map_nil]
  dsimp only
  rw [h1]
  rfl
set_option maxHeartbeats 12800000 in
set_option maxRecDepth 100000 in
theorem padsStay_walk (a0 : Option Addr) (len0 cap0 : Nat) (z0 : List Int) (w : World) (w0 : IsRow .i64 w a0 len0 cap0 z0) :
    Calls Tryz.prog 4 #[.slice a0 len0 cap0] w fun e w' => e = .returned (.bool true) ∧ Below w.heap.size w w' := by
  have hs2 := law_start2 w0
  clear w0
  generalize Zs.mk (z0.take len0) w.heap.size = zs at *
  obtain ⟨sA, sB⟩ := hs2
  have hL := sA.lim_le
  have hB0 : Below w.heap.size w ((w.alloc (.cells #[.slice a0 len0 cap0, .int .i64 0] 25)).alloc (.cells #[.slice a0 len0 cap0, .int .i64 0] 25)) := below_next (below_new w _) (below_new _ _)
  go_enter Tryz.func4, Tryz.ntmps4
  go_wp2_with fail
  generalize ((w.alloc (.cells #[.slice a0 len0 cap0, .int .i64 0] 25)).alloc (.cells #[.slice a0 len0 cap0, .int .i64 0] 25)) = w1 at *
  refine (rightSignalsF_c _ zs 0 _ sA (by omega)).mono ?_; rintro e w2 ⟨A1, n1, c1, rfl, rs1, _, hs1, hn1, a2, hk1, g2⟩
  have b2 := sB.other g2 hL (by omega)
  have hB2 := hB0.trans (grown_below g2 (Nat.le_refl _) hB0.size)
  clear sA sB hB0 g2
  go_wp2_with fail
  refine (rightSignalsF_c _ zs 0 _ b2 (by omega)).mono ?_; rintro e w3 ⟨A2, n2, c2, rfl, rs2, _, _, hn2, b3, _, g3⟩
  have a3 := a2.other g3 (by omega) (by omega)
  have rs1' := rs1.keep (T := 25) (by decide) (b2.keep g3)
  have hB3 := hB2.trans (grown_below g3 (by omega) hB2.size)
  have hkk : (rightSignalsV zs 6 0).2 ≤ 1800 := by omega
  clear hk1 rs1 a2 b2 hB2 g3 b3
  obtain ⟨⟨l, k1⟩, hlk⟩ : ∃ z, rightSignalsV zs 6 0 = z := ⟨_, rfl⟩
  rw [hlk] at rs1' rs2 hs1 a3 hkk
  dsimp only at rs1' rs2 hs1 a3 hkk
  clear hlk
  have K : K34 w (fun wx => (RSg wx A1 n1 l ∧ RSg wx A2 n2 l) ∧ St wx w.heap.size zs k1) w3 := ⟨⟨⟨rs1', rs2⟩, a3⟩, fun a b ⟨⟨h1, h2⟩, h3⟩ B => ⟨⟨h1.below B, h2.below B⟩, h3.below B⟩, hB3⟩
  have hMs := Lib.hid (fun E o h => mrg_self34 (l := l) (out := o) (E := E) hs1 h)
  have hMg := Lib.hid (fun W h => mergeO34_c A1 A1 n1 c1 n1 c1 l l W h h (by omega) (by omega))
  clear rs1' rs2 a3 hB3 hs1
  go_wp2_with fail
  refine (hMg.out _ K.x.1.1).mono ?_; rintro e w5 ⟨A5, n5, c5, m5, E5, rfl, r5, o5, _, hm5, B5⟩
  obtain rfl := hMs.out _ _ hm5
  have hn5 : n5 ≤ 140737488355328 := r5.bd
  obtain ⟨xs0, hx0, o5⟩ : ∃ xs : List Value, xs.length = n5 * 6 ∧ w5.ownsRow w3.heap.size 55 6 (.slice A5 n5 c5) n5 xs := ⟨_, o5.1, o5⟩
  clear r5 hm5 hMs hMg
  go_wp2_with fail
  go_loopw [9, 34] (fun _ i wr => ∃ k : Nat, k ≤ n5 ∧ i = .int .i64 k ∧ Below w3.heap.size w3 wr ∧ ∃ xs : List Value, xs.length = n5 * 6 ∧ wr.ownsRow w3.heap.size 55 6 (.slice A5 n5 c5) n5 xs) (fun _ i _ => n5 - (intOf i).toNat)
  case atStart => exact ⟨0, Nat.zero_le _, rfl, B5, xs0, hx0, o5⟩
  case round =>
    clear B5 hx0 o5
    rename World => wr
    obtain ⟨k, hk, rfl, hB, xs, hxs, ho⟩ := hrel
    by_cases hlt : k < n5
    · obtain ⟨g, rfl⟩ := own_cap34 ho (by omega)
      have c0 := ho.cellAt (k * 6) (by omega)
      have f0 := ho.frozenAt (k * 6)
      obtain ⟨v, hv⟩ := at_of_lt (l := xs) (k := k * 6) (by omega)
      rw [hv] at c0
      have S2 := Lib.hid (And.intro (hB.setCell (ho.lt g rfl).1 (p := ⟨g, k * 6, none⟩) (.string ⟨#[115, 112, 111, 105, 108, 116]⟩)) (ho.stored (k * 6) (.string ⟨#[115, 112, 111, 105, 108, 116]⟩)).1)
      clear ho hB
      go_wp2_with fail
      go_roundw
      case rel => exact ⟨k + 1, by omega, by go_num, S2.out.1, _, by rw [List.length_set]; exact hxs, S2.out.2⟩
      case measure => simp [intOf]; omega
    · obtain rfl : k = n5 := by omega
      have K2 := K.below hB
      clear K hB ho hxs
      have a4 := K2.x.2
      have rs1 := K2.x.1.1
      have rs2 := K2.x.1.2
      have hB4 := K2.bel
      clear K2
      go_wp2_with fail
      refine (plainRace_c _ zs k1 _ a4 (by omega)).mono ?_; rintro e w6 ⟨rfl, _, g6⟩
      have hok := plainRace_ok zs k1
      generalize (plainRace zs k1).1 = r at *
      have rs3 := rs1.keep (T := 25) (by decide) (a4.keep g6)
      have rs4 := rs2.keep (T := 25) (by decide) (a4.keep g6)
      have hB6 := hB4.trans (grown_below g6 (Nat.le_refl _) hB4.size)
      have hFd := Lib.hid (fun Af cf A c (S : List Shc) W hf h (hS : S.map Shc.dat = [⟨1, [⟨2, 3000, false⟩], 6100, 1⟩]) hlp => show Calls Tryz.prog 27 #[r.val, .slice Af 1 cf, .int .i64 1, .slice A 1 c] W (RetFd W 0 [⟨1, [lpPut 2 2900 ⟨2, 3000, false⟩], 6100, 1⟩]) from by
        have h9 := fixed_c r Af 1 cf [⟨r.key, 1, 1, 2, 2900, 1, ⟨#[97, 110, 110]⟩⟩] 1 A 1 c S W hf h hlp
        rwa [hS, fixd34 hok, fixdL34 r] at h9)
      clear rs1 rs2 a4 g6 hB4 hok
      obtain ⟨key, metres, stroke, course, legs, sex, young, old⟩ := r
      dsimp only [Race.val, Race.cells] at *
      have z1 : (w6.alloc (.cells #[.string key, .int .i64 metres, .int .i64 stroke, .int .i64 course, .int .i64 legs, .int .i64 sex, .int .i64 young, .int .i64 old] 57)).heap.size = w6.heap.size + 1 := by simp
      have z2 : ((w6.alloc (.cells #[.string key, .int .i64 metres, .int .i64 stroke, .int .i64 course, .int .i64 legs, .int .i64 sex, .int .i64 young, .int .i64 old] 57)).alloc (.cells #[.int .i64 2, .int .i64 3000, .bool false] 60)).heap.size = w6.heap.size + 1 + 1 := by simp
      obtain ⟨b4, hb4⟩ : ∃ b, w6.heap.size = b := ⟨_, rfl⟩
      have z3 : (((w6.alloc (.cells #[.string key, .int .i64 metres, .int .i64 stroke, .int .i64 course, .int .i64 legs, .int .i64 sex, .int .i64 young, .int .i64 old] 57)).alloc (.cells #[.int .i64 2, .int .i64 3000, .bool false] 60)).alloc (.cells #[.int .i64 1, .slice (some ⟨b4 + 1, 0, none⟩) 1 1, .int .i64 6100, .int .i64 1] 65)).heap.size = b4 + 1 + 1 + 1 := by rw [← hb4]; simp
      rw [hb4] at z1 z2
      have p0 := heap_alloc_new w6 (.cells #[.string key, .int .i64 metres, .int .i64 stroke, .int .i64 course, .int .i64 legs, .int .i64 sex, .int .i64 young, .int .i64 old] 57)
      rw [hb4] at p0
      have p1 := heap_alloc_new (w6.alloc (.cells #[.string key, .int .i64 metres, .int .i64 stroke, .int .i64 course, .int .i64 legs, .int .i64 sex, .int .i64 young, .int .i64 old] 57)) (.cells #[.int .i64 2, .int .i64 3000, .bool false] 60)
      rw [z1] at p1
      have p2 := heap_alloc_new ((w6.alloc (.cells #[.string key, .int .i64 metres, .int .i64 stroke, .int .i64 course, .int .i64 legs, .int .i64 sex, .int .i64 young, .int .i64 old] 57)).alloc (.cells #[.int .i64 2, .int .i64 3000, .bool false] 60)) (.cells #[.int .i64 1, .slice (some ⟨b4 + 1, 0, none⟩) 1 1, .int .i64 6100, .int .i64 1] 65)
      rw [z2] at p2
      have p3 := heap_alloc_new (((w6.alloc (.cells #[.string key, .int .i64 metres, .int .i64 stroke, .int .i64 course, .int .i64 legs, .int .i64 sex, .int .i64 young, .int .i64 old] 57)).alloc (.cells #[.int .i64 2, .int .i64 3000, .bool false] 60)).alloc (.cells #[.int .i64 1, .slice (some ⟨b4 + 1, 0, none⟩) 1 1, .int .i64 6100, .int .i64 1] 65)) (.cells #[.string key, .int .i64 1, .int .i64 1, .int .i64 2, .int .i64 2900, .int .i64 1, .string ⟨#[97, 110, 110]⟩] 68)
      rw [z3] at p3
      have BB : Below w6.heap.size w6 ((((w6.alloc (.cells #[.string key, .int .i64 metres, .int .i64 stroke, .int .i64 course, .int .i64 legs, .int .i64 sex, .int .i64 young, .int .i64 old] 57)).alloc (.cells #[.int .i64 2, .int .i64 3000, .bool false] 60)).alloc (.cells #[.int .i64 1, .slice (some ⟨b4 + 1, 0, none⟩) 1 1, .int .i64 6100, .int .i64 1] 65)).alloc (.cells #[.string key, .int .i64 1, .int .i64 1, .int .i64 2, .int .i64 2900, .int .i64 1, .string ⟨#[97, 110, 110]⟩] 68)) := below_next (below_next (below_next (below_new w6 _) (below_new _ _)) (below_new _ _)) (below_new _ _)
      have hb0 := Lib.hid (blk_alloc (blk_alloc (blk_alloc p0 (.cells #[.int .i64 2, .int .i64 3000, .bool false] 60)) (.cells #[.int .i64 1, .slice (some ⟨b4 + 1, 0, none⟩) 1 1, .int .i64 6100, .int .i64 1] 65)) (.cells #[.string key, .int .i64 1, .int .i64 1, .int .i64 2, .int .i64 2900, .int .i64 1, .string ⟨#[97, 110, 110]⟩] 68))
      have hb1 := Lib.hid (blk_alloc (blk_alloc p1 (.cells #[.int .i64 1, .slice (some ⟨b4 + 1, 0, none⟩) 1 1, .int .i64 6100, .int .i64 1] 65)) (.cells #[.string key, .int .i64 1, .int .i64 1, .int .i64 2, .int .i64 2900, .int .i64 1, .string ⟨#[97, 110, 110]⟩] 68))
      have hb2 := Lib.hid (blk_alloc p2 (.cells #[.string key, .int .i64 1, .int .i64 1, .int .i64 2, .int .i64 2900, .int .i64 1, .string ⟨#[97, 110, 110]⟩] 68))
      have hb3 := Lib.hid p3
      have y0 := (blk_facts (blk_alloc (blk_alloc p0 (.cells #[.int .i64 2, .int .i64 3000, .bool false] 60)) (.cells #[.int .i64 1, .slice (some ⟨b4 + 1, 0, none⟩) 1 1, .int .i64 6100, .int .i64 1] 65))).1
      have hc0 := y0 0
      have hc1 := y0 1
      have hc2 := y0 2
      have hc3 := y0 3
      have hc4 := y0 4
      have hc5 := y0 5
      have hc6 := y0 6
      have hc7 := y0 7
      have x0 := (blk_facts hb0.out).1 0
      have x1 := (blk_facts hb0.out).1 1
      have x2 := (blk_facts hb0.out).1 2
      have x3 := (blk_facts hb0.out).1 3
      have x4 := (blk_facts hb0.out).1 4
      have x5 := (blk_facts hb0.out).1 5
      have x6 := (blk_facts hb0.out).1 6
      have x7 := (blk_facts hb0.out).1 7
      have K : K34 w (fun wx => (RSg wx A1 n1 l ∧ RSg wx A2 n2 l) ∧ wx.heap[b4 + 1]? = some (.cells #[.int .i64 2, .int .i64 3000, .bool false] 60 (0, 0)) ∧ wx.heap[b4 + 1 + 1]? = some (.cells #[.int .i64 1, .slice (some ⟨b4 + 1, 0, none⟩) 1 1, .int .i64 6100, .int .i64 1] 65 (0, 0))) ((((w6.alloc (.cells #[.string key, .int .i64 metres, .int .i64 stroke, .int .i64 course, .int .i64 legs, .int .i64 sex, .int .i64 young, .int .i64 old] 57)).alloc (.cells #[.int .i64 2, .int .i64 3000, .bool false] 60)).alloc (.cells #[.int .i64 1, .slice (some ⟨b4 + 1, 0, none⟩) 1 1, .int .i64 6100, .int .i64 1] 65)).alloc (.cells #[.string key, .int .i64 1, .int .i64 1, .int .i64 2, .int .i64 2900, .int .i64 1, .string ⟨#[97, 110, 110]⟩] 68)) := ⟨⟨⟨rs3.below BB, rs4.below BB⟩, hb1.out, hb2.out⟩, fun a b ⟨⟨h1, h2⟩, h3, h4⟩ B => ⟨⟨h1.below B, h2.below B⟩, blk_below h3 B, blk_below h4 B⟩, below_next hB6 BB⟩
      have hRf : RFx ((((w6.alloc (.cells #[.string key, .int .i64 metres, .int .i64 stroke, .int .i64 course, .int .i64 legs, .int .i64 sex, .int .i64 young, .int .i64 old] 57)).alloc (.cells #[.int .i64 2, .int .i64 3000, .bool false] 60)).alloc (.cells #[.int .i64 1, .slice (some ⟨b4 + 1, 0, none⟩) 1 1, .int .i64 6100, .int .i64 1] 65)).alloc (.cells #[.string key, .int .i64 1, .int .i64 1, .int .i64 2, .int .i64 2900, .int .i64 1, .string ⟨#[97, 110, 110]⟩] 68)) (some ⟨b4 + 1 + 1 + 1, 0, none⟩) 1 [⟨key, 1, 1, 2, 2900, 1, ⟨#[97, 110, 110]⟩⟩] := rn_one34 fxE_len _ hb3.out
      have hRs : RSh ((((w6.alloc (.cells #[.string key, .int .i64 metres, .int .i64 stroke, .int .i64 course, .int .i64 legs, .int .i64 sex, .int .i64 young, .int .i64 old] 57)).alloc (.cells #[.int .i64 2, .int .i64 3000, .bool false] 60)).alloc (.cells #[.int .i64 1, .slice (some ⟨b4 + 1, 0, none⟩) 1 1, .int .i64 6100, .int .i64 1] 65)).alloc (.cells #[.string key, .int .i64 1, .int .i64 1, .int .i64 2, .int .i64 2900, .int .i64 1, .string ⟨#[97, 110, 110]⟩] 68)) (some ⟨b4 + 1 + 1, 0, none⟩) 1 [⟨1, some ⟨b4 + 1, 0, none⟩, 1, 1, [⟨2, 3000, false⟩], 6100, 1⟩] := ⟨rn_one34 shE_len _ hb2.out, fun x hx => by
        obtain rfl := List.mem_singleton.1 hx
        exact rn_one34 lpE_len _ hb1.out⟩
      have hFc := Lib.hid (hFd.out (some ⟨b4 + 1 + 1 + 1, 0, none⟩) 1 (some ⟨b4 + 1 + 1, 0, none⟩) 1 _ _ hRf hRs rfl (fun x hx => by obtain rfl := List.mem_singleton.1 hx; show (1 : Nat) ≤ 1000; omega))
      clear rs3 rs4 hB6 p0 p1 p2 p3 BB hb0 hb1 hb2 hb3 y0 hRf hRs hFd
      go_wp2_with fail
      refine hFc.out.mono ?_; rintro e w7 ⟨A7, n7, c7, S7, rfl, _, hD7, o7, wo7, B7⟩
      have hD := hD7 rfl
      clear hD7 hFc hc0 hc1 hc2 hc3 hc4 hc5 hc6 hc7 x0 x1 x2 x3 x4 x5 x6 x7
      obtain ⟨x, rfl⟩ : ∃ x, S7 = [x] := by
        have hl := congrArg List.length hD
        rw [List.length_map] at hl
        exact List.length_eq_one_iff.1 hl
      obtain ⟨fb, hfb⟩ : ∃ fb, lpPut 2 2900 ⟨2, 3000, false⟩ = ⟨2, 2900, fb⟩ := ⟨_, rfl⟩
      have hx : x.dat = ⟨1, [⟨2, 2900, fb⟩], 6100, 1⟩ := by rw [← hfb]; simpa using hD
      have wo := wo7 x (List.mem_singleton_self _)
      obtain ⟨xl, xA, xn, xc, xp, xt, xb⟩ := x
      unfold Shc.dat at hx
      injection hx with e1 e2 e3 e4
      dsimp only at e1 e2 e3 e4 wo
      subst e1 e2 e3 e4
      obtain rfl : 1 = n7 := own_len shE_len (by decide) o7
      obtain rfl : 1 = xn := own_len lpE_len (by decide) wo
      obtain ⟨g1, rfl⟩ := own_cap34 o7 (by omega)
      obtain ⟨g2, rfl⟩ := own_cap34 wo (by omega)
      have q1 : w7.cell? ⟨g1, 1, none⟩ = some (.slice (some ⟨g2, 0, none⟩) 1 xc) := (o7.cellAt 1 (by omega)).trans rfl
      have q2 : w7.cell? ⟨g2, 1, none⟩ = some (.int .i64 2900) := (wo.cellAt 1 (by omega)).trans rfl
      have f2 := wo.frozenAt 1
      have hB8 := Lib.hid (B7.setCell (wo.lt g2 rfl).1 (p := ⟨g2, 1, none⟩) (.int .i64 777))
      have K8 := K.below hB8.out
      have s0 := (blk_facts K8.x.2.2).1 1
      have s1 := (blk_facts K8.x.2.1).1 1
      have hEq := Lib.hid (fun W h1 h2 => show Calls Tryz.prog 28 #[.slice A1 n1 c1, .slice A2 n2 c2] W fun e w' => e = .returned (.bool true) ∧ Below W.heap.size W w' from (equalSg_c A1 A2 n1 c1 n2 c2 l l W h1 h2).mono fun e w' ⟨h3, q, h4⟩ => ⟨by rw [h3]; simp, by rw [h4]; exact below_drewN (Below.refl _ _) q⟩)
      clear hD hfb wo7 o7 wo B7 K hB8
      go_wp2_with fail
      refine (hEq.out _ K8.x.1.1 K8.x.1.2).mono ?_; rintro e w8 ⟨rfl, B8⟩
      have K9 := K8.below B8
      clear K8 B8 hEq s0 s1 q1 q2 f2
      have s0 := (blk_facts K9.x.2.2).1 1
      have s1 := (blk_facts K9.x.2.1).1 1
      go_wp2_with fail
      refine (ready_c _).mono ?_; rintro e wc ⟨rfl, Bc⟩
      have Kb := (K9.below Bc).bel
      clear K9 Bc s0 s1
      go_wp2
      go_ret
      exact ⟨rfl, Kb⟩
end Go.Proofs.YtklggnglaeagpaaGreatDoor
