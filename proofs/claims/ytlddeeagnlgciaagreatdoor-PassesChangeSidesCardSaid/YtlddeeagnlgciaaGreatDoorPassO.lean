/- the reference's PassesOf. -/
import Derived.Test.YtlddeeagnlgciaaGreatDoorEdgeD
import Derived.Test.YtlddeeagnlgciaaGreatDoorPassX
import Derived.Test.YtlddeeagnlgciaaGreatDoorWhereR
import Derived.BigGuardPart
namespace Go.Proofs.YtlddeeagnlgciaaGreatDoor
open Go.RowKit
set_option linter.unusedVariables false

structure KO (w : World) (bE base : Nat) (rc : Array Value) (EA : Option Addr) (L : Nat) (E : List Int) (v9 : Value) (outs : List (Int × Int)) (e1 e2 : Int) (wr : World) : Prop where
  e : RI 3 wr EA L E
  r : wr.heap[w.heap.size]? = some (.cells rc 27 (0, 0))
  q : wr.heap[bE]? = some (.cells #[.int .i64 e1, .int .i64 e2] 86 (0, 0))
  o : wr.ownsRow base 86 2 v9 outs.length (outs.flatMap frE)
  b : Below w.heap.size w wr
  l : w.heap.size < bE
  l2 : bE < base
  l3 : base ≤ wr.heap.size
section
variable {w wr w' : World} {bE base : Nat} {rc : Array Value} {EA : Option Addr} {L : Nat} {E : List Int} {v9 : Value} {outs : List (Int × Int)} {e1 e2 : Int}
theorem KO.below (h : KO w bE base rc EA L E v9 outs e1 e2 wr) (B : Below wr.heap.size wr w') : KO w bE base rc EA L E v9 outs e1 e2 w' :=
  ⟨h.e.below B, blk_below h.r B, blk_below h.q B, own_below h.o B, below_next h.b B, h.l, h.l2, Nat.le_trans h.l3 B.size⟩
theorem KO.set (h : KO w bE base rc EA L E v9 outs e1 e2 wr) (u1 u2 : Int) : KO w bE base rc EA L E v9 outs u1 u2 ((wr.setCell ⟨bE, 0, none⟩ (.int .i64 u1)).setCell ⟨bE, 1, none⟩ (.int .i64 u2)) := by
  have k1 := keep_set h.q 0 (.int .i64 u1)
  have q1 := blk_set h.q 0 (.int .i64 u1)
  have k2 := keep_set q1 1 (.int .i64 u2)
  have q2 := blk_set q1 1 (.int .i64 u2)
  have k := k1.trans k2
  have hg := grown_trans (grown_setCell (grown_refl wr (some bE)) (p := ⟨bE, 0, none⟩) (.inl rfl) (.int .i64 u1)) (grown_setCell (grown_refl _ (some bE)) (p := ⟨bE, 1, none⟩) (.inl rfl) (.int .i64 u2))
  refine ⟨h.e.keep (T := 86) (by decide) k, k _ _ _ _ (by decide) h.r, by simpa using q2, own_keep h.o h.l2 hg, (h.b.setCell (Nat.le_of_lt h.l) _).setCell (Nat.le_of_lt h.l) _, h.l, h.l2, ?_⟩
  have := hg.size
  have := h.l3
  omega
theorem KO.app {v' : Value} {p : Int × Int} (h : KO w bE base rc EA L E v9 outs e1 e2 wr) (ho : w'.ownsRow base 86 2 v' (outs.length + 1) (outs.flatMap frE ++ frE p)) (hg : wr.grownBy w' v9.ownBlock) : KO w bE base rc EA L E v' (outs ++ [p]) e1 e2 w' := by
  have k := keep_of_app h.o hg
  have hl := h.l
  have hl2 := h.l2
  have hl3 := h.l3
  have hz := h.b.size
  refine ⟨h.e.keep (T := 86) (by decide) k, k _ _ _ _ (by decide) h.r, blk_grown h.q hg (fun e => by have := (h.o.lt _ e.symm).1; omega), ?_, below_own h.b h.o hg hz (by omega), hl, hl2, by have := hg.size; omega⟩
  rw [← flat_snoc, List.length_append]
  exact ho
end
theorem last_fin {E : List Int} {fin : Int} (hp : E.Pairwise (· < ·)) (hm : fin ∈ E) (hle : ∀ x ∈ E, x ≤ fin) : E[E.length - 1]? = some fin := by
  obtain ⟨i, hi⟩ := List.mem_iff_getElem?.1 hm
  have hil := lt_of_at hi
  obtain ⟨x, hx⟩ := at_of_lt (l := E) (k := E.length - 1) (by omega)
  by_cases he : i = E.length - 1
  · rw [← he]; exact hi
  · have h9 := List.pairwise_iff_getElem.1 hp i (E.length - 1) hil (by omega) (by omega)
    have h8 := hle x (List.mem_of_getElem? hx)
    rw [List.getElem?_eq_getElem hil] at hi
    rw [List.getElem?_eq_getElem (by omega)] at hx
    injection hi with hi
    injection hx with hx
    rw [hi, hx] at h9
    omega
/-- what the loop over the edges wants to know of them -/
structure EdgeF (c tot : Int) (la lb : List Int) (fin : Int) (E : List Int) : Prop where
  last : E[E.length - 1]? = some fin
  pos : 0 < E.length
  zero : E[0]? = some 0
  bd : ∀ x ∈ E, 0 ≤ x ∧ x ≤ fin
  step : ∀ (k : Nat) (e t : Int), E[k]? = some e → E[k + 1]? = some t → sideP c tot la lb t ≠ 0 → sideP c tot la lb e = -sideP c tot la lb t → e < t ∧ 0 < (meetP la lb e).2 ∧ 0 ≤ (meetP la lb e).1 ∧ (meetF la lb e).1 < fin * (meetF la lb e).2
theorem edge_f {c tot fin : Int} {a b : List Int} (h : Two2 c tot a b fin) : EdgeF c tot a b fin (edgesR a b fin) := by
  have hp : ∀ x ∈ a ++ b, 0 < x := fun x hx => by
    rcases List.mem_append.1 hx with h1 | h1
    · exact rise_all h.ra x h1
    · exact rise_all h.rb x h1
  have hfp := hp _ h.fm
  rw [edges_same h.fm (by omega)]
  obtain ⟨rest, hE, hpw, hbd, hall⟩ := edges_ok h.fm hp
  have hfm := hall fin h.fm (Int.le_refl _)
  have hz : (edgesP a b fin)[0]? = some 0 := by rw [hE]; rfl
  have hpos : 0 < (edgesP a b fin).length := by rw [hE]; simp
  generalize edgesP a b fin = E at *
  refine ⟨last_fin hpw hfm (fun x hx => (hbd x hx).2), hpos, hz, hbd, fun k e t he ht hs hs2 => ?_⟩
  have key : ∀ (i j : Nat) (x y : Int), i < j → E[i]? = some x → E[j]? = some y → x < y := fun i j x y hij hx hy => by
    have hjl := lt_of_at hy
    have h9 := List.pairwise_iff_getElem.1 hpw i j (by omega) hjl hij
    rw [List.getElem?_eq_getElem (by omega)] at hx hy
    injection hx with hx
    injection hy with hy
    rw [hx, hy] at h9
    exact h9
  have het := key k (k + 1) e t (by omega) he ht
  have hbe := hbd e (List.mem_of_getElem? he)
  have hbt := hbd t (List.mem_of_getElem? ht)
  refine ⟨het, edge_step h hbe.1 het hbt.2 (fun x hx hxf => ?_) hs hs2⟩
  obtain ⟨i, hi⟩ := List.mem_iff_getElem?.1 (hall x hx hxf)
  rcases Nat.lt_trichotomy i (k + 1) with h9 | h9 | h9
  · by_cases h8 : i = k
    · rw [h8, he] at hi; injection hi with hi; exact .inl (by omega)
    · exact .inl (Int.le_of_lt (key i k x e (by omega) hi he))
  · rw [h9, ht] at hi; injection hi with hi; exact .inr (by omega)
  · exact .inr (Int.le_of_lt (key (k + 1) i t x h9 ht hi))
theorem meet_den {a b : List Int} {q : Int} (hra : risingF a 0 = true) (hrb : risingF b 0 = true) (hAb : ∀ x ∈ a, 0 ≤ x ∧ x ≤ 360000) (hBb : ∀ x ∈ b, 0 ≤ x ∧ x ≤ 360000) (ha : a.length ≤ 1000) (hb : b.length ≤ 1000) (p1 : 0 < (meetP a b q).2) (hxa : ∃ x ∈ a, q < x) (hxb : ∃ x ∈ b, q < x) : 0 ≤ (meetF a b q).2 ∧ (meetF a b q).2 ≤ 360000 := by
  obtain ⟨_, _, _, _, x0, x1⟩ := lapP_bd hra hAb ha hxa
  obtain ⟨_, _, _, _, y0, y1⟩ := lapP_bd hrb hBb hb hxb
  have h2 : (meetP a b q).2 ≤ 360000 := by
    unfold meetP
    split
    · show -((lapP b q).2.2 - (lapP a q).2.2) ≤ 360000; omega
    · show (lapP b q).2.2 - (lapP a q).2.2 ≤ 360000; omega
  show 0 ≤ fracD (meetP a b q).1 (meetP a b q).2 ∧ fracD (meetP a b q).1 (meetP a b q).2 ≤ 360000
  unfold fracD
  refine ⟨Int.ediv_nonneg (by omega) (by omega), Int.le_trans (Int.ediv_le_self _ (by omega)) h2⟩
set_option maxHeartbeats 6400000 in
set_option maxRecDepth 100000 in
theorem passesOf_c (r : Race) (A B : Option Addr) (n c m d : Nat) (la lb : List Int) (fin : Int) (w : World) (ha : RI 3 w A n la) (hb : RI 3 w B m lb) (ha0 : wholeErr r la = 0) (hb0 : wholeErr r lb = 0) (hn1 : 1 ≤ n) (hm1 : 1 ≤ m) (hn : n ≤ 300) (hm : m ≤ 300) (hfin : fin = min (la.getD (n - 1) 0) (lb.getD (m - 1) 0)) (h2 : Two2 r.course (r.metres * r.legs) la lb fin) :
    Calls Tryz.prog 41 #[r.val, .slice A n c, .slice B m d] w fun e w' => ∃ A' n' c', e = .returned (.slice A' n' c') ∧ RFr w' A' n' (passL r.course (r.metres * r.legs) la lb fin) ∧ Below w.heap.size w w' := by
  have hAb := (splits_bd (wholeErr_ok ha0).1).2.2
  have hBb := (splits_bd (wholeErr_ok hb0).1).2.2
  have hfb : 0 ≤ fin ∧ fin ≤ 360000 := by
    rcases List.mem_append.1 h2.fm with h9 | h9
    · exact hAb _ h9
    · exact hBb _ h9
  have hEd := Lib.hid (fun W g1 g2 => edgesOf_c A B n c m d la lb fin W g1 g2 hn1 hm1 hn hm hAb hBb hfin)
  have hEF := edge_f h2
  have hPS := Lib.hid (passes_same h2 (0, 0) ((edgesR la lb fin).getD 0 0))
  have hEq := Lib.hid (fun q W g1 g2 hxa hxb p1 p2 => show Calls Tryz.prog 118 #[.slice A n c, .slice B m d, .int .i64 q] W fun e w' => e = .returned (.agg #[.int .i64 (meetF la lb q).1, .int .i64 (meetF la lb q).2]) ∧ Below W.heap.size W w' from equalIn_c A B n c m d la lb q W g1 g2 (by omega) (by omega) hAb hBb h2.ra h2.rb hxa hxb p1 p2)
  have hX := Lib.hid (fun t h0 h1 W h => farAtG_c r A n c la t W h ha0 h0 h1)
  have hY := Lib.hid (fun t h0 h1 W h => farAtG_c r B m d lb t W h hb0 h0 h1)
  have hbX := Lib.hid (fun t h0 h1 => farP_bd (t := t) ha0 h0 h1)
  have hbY := Lib.hid (fun t h0 h1 => farP_bd (t := t) hb0 h0 h1)
  have hSd := Lib.hid (fun t => show Lib.compareInt ((farP r.course (r.metres * r.legs) la t).1 * (farP r.course (r.metres * r.legs) lb t).2) ((farP r.course (r.metres * r.legs) lb t).1 * (farP r.course (r.metres * r.legs) la t).2) = sideP r.course (r.metres * r.legs) la lb t from rfl)
  have hS3 := Lib.hid (fun t => side3 r.course (r.metres * r.legs) la lb t)
  have hZ := Lib.hid (side_zero h2.ra h2.rb h2.la h2.lb (c := r.course) (tot := r.metres * r.legs))
  have hMb := Lib.hid (fun q (p1 : 0 < (meetP la lb q).2) (hxa : ∃ x ∈ la, q < x) (hxb : ∃ x ∈ lb, q < x) => meet_den h2.ra h2.rb hAb hBb (by rw [ha.len]; omega) (by rw [hb.len]; omega) p1 hxa hxb)
  have hxA := Lib.hid h2.xa
  have hxB := Lib.hid h2.xb
  generalize edgesR la lb fin = E at *
  generalize passL r.course (r.metres * r.legs) la lb fin = PL at *
  obtain ⟨hlast, hpos, hzero, hbd, hstep⟩ := hEF
  have hstep' := Lib.hid hstep
  have hbd' := Lib.hid hbd
  have hzero' := Lib.hid hzero
  have hlast' := Lib.hid hlast
  clear hstep hbd hzero hlast ha0 hb0 hAb hBb hfin h2
  generalize sideP r.course (r.metres * r.legs) la lb = SP at *
  generalize farP r.course (r.metres * r.legs) la = FA at *
  generalize farP r.course (r.metres * r.legs) lb = FB at *
  generalize hMM : meetF la lb = MF at *
  generalize meetP la lb = MP at *
  clear hMM
  obtain ⟨key, metres, stroke, course, legs, sex, young, old⟩ := r
  dsimp only [Race.val, Race.cells] at *
  have hr0 := heap_alloc_new w (.cells #[.string key, .int .i64 metres, .int .i64 stroke, .int .i64 course, .int .i64 legs, .int .i64 sex, .int .i64 young, .int .i64 old] 27)
  have hB0 := below_new w (.cells #[.string key, .int .i64 metres, .int .i64 stroke, .int .i64 course, .int .i64 legs, .int .i64 sex, .int .i64 young, .int .i64 old] 27)
  have hz0 : (w.alloc (.cells #[.string key, .int .i64 metres, .int .i64 stroke, .int .i64 course, .int .i64 legs, .int .i64 sex, .int .i64 young, .int .i64 old] 27)).heap.size = w.heap.size + 1 := alloc_size _ _
  go_enter Tryz.func41, Tryz.ntmps41
  go_wp2_with fail
  refine (hEd.out _ (ha.alloc _) (hb.alloc _)).mono ?_; rintro e w1 ⟨EA, L, ec, rfl, hown, hL, B1⟩
  have hr1 := blk_below hr0 B1
  have hB1 := below_next hB0 B1
  have hz1 := B1.size
  rw [hz0] at hz1
  have hE1 : RI 3 w1 EA L E := R1.of_own hown (by omega)
  have hEl : E.length = L := hE1.len
  subst hEl
  clear hr0 hB0 hz0 B1 hEd hown
  obtain ⟨bE, oE, tE, hEA, lE, htE, cE⟩ := hE1.at_ (k := E.length - 1) (by omega)
  rw [hlast'.out] at htE
  injection htE with htE
  subst htE
  have e1 : IntKind.i64.wrap ((E.length : Int) - 1) = (E.length : Int) - 1 := IntWalk.i64_in _ (by omega)
  have e2 : 0 ≤ (E.length : Int) - 1 := by omega
  have e3 : ((E.length : Int) - 1).toNat = E.length - 1 := by omega
  have e4 : (E.length : Int) - 1 < E.length := by omega
  have e5 : (1 : Int) ≤ (E.length : Int) := by omega
  subst hEA
  have hq1 := heap_alloc_new w1 (.cells #[.int .i64 0, .int .i64 0] 86)
  have K1 : KO w w1.heap.size (w1.heap.size + 1) #[.string key, .int .i64 metres, .int .i64 stroke, .int .i64 course, .int .i64 legs, .int .i64 sex, .int .i64 young, .int .i64 old] (some ⟨bE, oE, none⟩) E.length E (.slice none 0 0) [] 0 0 (w1.alloc (.cells #[.int .i64 0, .int .i64 0] 86)) :=
    ⟨hE1.alloc _, blk_alloc hr1 _, hq1, World.ownsRow_nil _ _ _ _, hB1.alloc hB1.size _, by omega, by omega, by rw [alloc_size]; exact Nat.le_refl _⟩
  generalize hL' : E.length = L at *
  have hLh := Lib.hid hL'
  clear hL' hr1 hB1 hq1 hE1 hlast'
  go_wp2
  have K0 : KO w w1.heap.size (w1.heap.size + 1) #[.string key, .int .i64 metres, .int .i64 stroke, .int .i64 course, .int .i64 legs, .int .i64 sex, .int .i64 young, .int .i64 old] (some ⟨bE, oE, none⟩) L E (.slice none 0 0) [] 0 0 (w1.alloc (.cells #[.int .i64 0, .int .i64 0] 86)) := K1
  generalize w1.heap.size = bQ at *
  generalize hwE : w1.alloc (.cells #[.int .i64 0, .int .i64 0] 86) = wE at *
  clear hwE cE lE e1 e2 e3 e4 e5 K1 hz1
  go_loopw [9, 10, 11, 27] (fun v9 v10 v11 i wr => ∃ (k : Nat) (sS sB e1 e2 : Int) (outs : List (Int × Int)), k ≤ L ∧ i = .int .i64 k ∧ v10 = .int .i64 sS ∧ v11 = .int .i64 sB ∧ Hid (sS = -1 ∨ sS = 0 ∨ sS = 1) ∧ Hid (sB = 0 ∨ sB = sS) ∧ 0 ≤ e2 ∧ e2 ≤ 360000 ∧ Hid (0 < k → sB = SP (E.getD (k - 1) 0)) ∧ Hid (k = 0 → sB = 0) ∧ outs.length ≤ k ∧ KO w bQ (bQ + 1) #[.string key, .int .i64 metres, .int .i64 stroke, .int .i64 course, .int .i64 legs, .int .i64 sex, .int .i64 young, .int .i64 old] (some ⟨bE, oE, none⟩) L E v9 outs e1 e2 wr ∧ Hid (outs ++ passRef SP MF fin sS sB (e1, e2) (E.getD (k - 1) 0) (E.drop k) = PL)) (fun _ _ _ i _ => L - (intOf i).toNat)
  case atStart => exact ⟨0, 0, 0, 0, 0, [], Nat.zero_le _, rfl, rfl, rfl, Lib.hid (.inr (.inl rfl)), Lib.hid (.inl rfl), by omega, by omega, Lib.hid (fun h => absurd h (by omega)), Lib.hid (fun _ => rfl), Nat.zero_le _, K0, Lib.hid hPS.out⟩
  case round =>
    clear K0
    obtain ⟨k, sS, sB, e1, e2, outs, hk, rfl, rfl, rfl, hS3', hSB, he20, he21, hPr, hP0, hol, K, hG⟩ := hrel
    by_cases hlt : k < L
    · obtain ⟨bE', oE', t, hEA, lE, htE, cE⟩ := K.e.at_ hlt
      injection hEA with hEA
      injection hEA with q1 q2
      subst q1 q2
      have htb := hbd'.out t (List.mem_of_getElem? htE)
      have hGt0 : passRef SP MF fin sS sB (e1, e2) (E.getD (k - 1) 0) (E.drop k) = passRef SP MF fin sS sB (e1, e2) (E.getD (k - 1) 0) (t :: E.drop (k + 1)) := by rw [drop_at htE]
      have hGt := Lib.hid (hGt0.trans (passRef_cons SP MF fin sS sB (e1, e2) (E.getD (k - 1) 0) t (E.drop (k + 1))))
      clear hGt0
      have hX' := Lib.hid (hX.out t (by omega) (by omega))
      have hY' := Lib.hid (hY.out t (by omega) (by omega))
      have bX := hbX.out t (by omega) (by omega)
      have bY := hbY.out t (by omega) (by omega)
      have hSo := Lib.hid (fun W => compareSpots_c (FA t).1 (FA t).2 (FB t).1 (FB t).2 W bX.1 bX.2.1 (Int.le_of_lt bX.2.2.1) bX.2.2.2 bY.1 bY.2.1 (Int.le_of_lt bY.2.2.1) bY.2.2.2)
      rw [hSd.out t] at hSo
      have hs3 := hS3.out t
      have haW := Lib.hid (fun W (h : Below w.heap.size w W) => ha.below h)
      have hbW := Lib.hid (fun W (h : Below w.heap.size w W) => hb.below h)
      have hKb := Lib.hid (fun W (h : Below wr.heap.size wr W) => K.below h)
      have Kd : KO w bQ (bQ + 1) #[.string key, .int .i64 metres, .int .i64 stroke, .int .i64 course, .int .i64 legs, .int .i64 sex, .int .i64 young, .int .i64 old] (some ⟨bE, oE, none⟩) L E u9 outs e1 e2 wr.drew := K.below (below_drewN (Below.refl _ _) 1)
      have z0 := (blk_facts Kd.r).1 0
      have z1 := (blk_facts Kd.r).1 1
      have z2 := (blk_facts Kd.r).1 2
      have z3 := (blk_facts Kd.r).1 3
      have z4 := (blk_facts Kd.r).1 4
      have z5 := (blk_facts Kd.r).1 5
      have z6 := (blk_facts Kd.r).1 6
      have z7 := (blk_facts Kd.r).1 7
      clear bX bY hX hY hbX hbY hSd hS3
      go_upto_region 9 with (fail)
      go_cut [15] (fun s15 wx => s15 = .int .i64 (SP t) ∧ KO w bQ (bQ + 1) #[.string key, .int .i64 metres, .int .i64 stroke, .int .i64 course, .int .i64 legs, .int .i64 sex, .int .i64 young, .int .i64 old] (some ⟨bE, oE, none⟩) L E u9 outs e1 e2 wx)
      case first =>
        clear hG hGt hEq hMb hstep' hbd'
        go_region_held3 (fun w' => w'.cell? ⟨w.heap.size, 0, none⟩ = some (.string key) ∧ w'.cell? ⟨w.heap.size, 1, none⟩ = some (.int .i64 metres) ∧ w'.cell? ⟨w.heap.size, 2, none⟩ = some (.int .i64 stroke) ∧ w'.cell? ⟨w.heap.size, 3, none⟩ = some (.int .i64 course) ∧ w'.cell? ⟨w.heap.size, 4, none⟩ = some (.int .i64 legs) ∧ w'.cell? ⟨w.heap.size, 5, none⟩ = some (.int .i64 sex) ∧ w'.cell? ⟨w.heap.size, 6, none⟩ = some (.int .i64 young) ∧ w'.cell? ⟨w.heap.size, 7, none⟩ = some (.int .i64 old)) (first | go_keep | with_reducible exact ⟨z0, z1, z2, z3, z4, z5, z6, z7⟩ | with_reducible exact ⟨y0, y1, y2, y3, y4, y5, y6, y7⟩ | with_reducible exact ⟨p0, p1, p2, p3, p4, p5, p6, p7⟩ | with_reducible exact ⟨q0, q1, q2, q3, q4, q5, q6, q7⟩)
          (first
            | (go_at_call 117; with_reducible refine (hX'.out _ (haW.out _ Kd.b)).mono ?_; rintro e w6 ⟨rfl, B6, D6⟩; have K6 := Kd.below B6; have y0 := (blk_facts K6.r).1 0; have y1 := (blk_facts K6.r).1 1; have y2 := (blk_facts K6.r).1 2; have y3 := (blk_facts K6.r).1 3; have y4 := (blk_facts K6.r).1 4; have y5 := (blk_facts K6.r).1 5; have y6 := (blk_facts K6.r).1 6; have y7 := (blk_facts K6.r).1 7)
            | (go_at_call 117; with_reducible refine (hY'.out _ (hbW.out _ K6.b)).mono ?_; rintro e w7 ⟨rfl, B7, D7⟩; have K7 := K6.below B7; have p0 := (blk_facts K7.r).1 0; have p1 := (blk_facts K7.r).1 1; have p2 := (blk_facts K7.r).1 2; have p3 := (blk_facts K7.r).1 3; have p4 := (blk_facts K7.r).1 4; have p5 := (blk_facts K7.r).1 5; have p6 := (blk_facts K7.r).1 6; have p7 := (blk_facts K7.r).1 7)
            | (go_at_call 116; with_reducible refine (hSo.out _).mono ?_; rintro e w8 ⟨rfl, B8, D8⟩; have K8 := K7.below B8; have q0 := (blk_facts K8.r).1 0; have q1 := (blk_facts K8.r).1 1; have q2 := (blk_facts K8.r).1 2; have q3 := (blk_facts K8.r).1 3; have q4 := (blk_facts K8.r).1 4; have q5 := (blk_facts K8.r).1 5; have q6 := (blk_facts K8.r).1 6; have q7 := (blk_facts K8.r).1 7))
        go_wp2
        go_meet
        case rel => exact ⟨rfl, K8⟩
      case rest =>
        clear hKb Kd z0 z1 z2 z3 z4 z5 z6 z7 hX' hY' hSo K
        rename World => wx
        obtain ⟨rfl, K⟩ := hcut
        have htE' := Lib.hid htE
        generalize hSV : SP t = sV at *
        have hSV' := Lib.hid hSV
        clear hSV htE cE
        obtain ⟨zq, yq⟩ := blk_facts K.q
        have lq := lt_of_heap K.q
        rcases hs3 with rfl | rfl | rfl
        · rcases hSB.out with h0 | h0
          · subst h0
            have z0 := zq 0
            have z1 := zq 1
            rcases hS3'.out with rfl | rfl | rfl
            · clear zq yq
              have hN := Lib.hid (show outs ++ passRef SP MF fin (-1) (-1) (e1, e2) t (E.drop (k + 1)) = PL by rw [← hG.out, hGt.out]; simp)
              clear hG hGt
              go_wp2
              go_roundw
              case rel => exact ⟨k + 1, (-1), (-1), e1, e2, outs, by omega, by go_num, rfl, rfl, Lib.hid (by simp), Lib.hid (by simp), by omega, by omega, Lib.hid (fun _ => by rw [show k + 1 - 1 = k by omega, getD_of htE'.out, hSV'.out]), Lib.hid (fun h => absurd h (by omega)), by first | omega | (simp; omega), K, Lib.hid (by rw [show k + 1 - 1 = k by omega, getD_of htE'.out]; exact hN.out)⟩
              case measure => simp [intOf]; omega
            · clear zq yq
              have hN := Lib.hid (show outs ++ passRef SP MF fin (-1) (-1) (e1, e2) t (E.drop (k + 1)) = PL by rw [← hG.out, hGt.out]; simp)
              clear hG hGt
              go_wp2
              go_roundw
              case rel => exact ⟨k + 1, (-1), (-1), e1, e2, outs, by omega, by go_num, rfl, rfl, Lib.hid (by simp), Lib.hid (by simp), by omega, by omega, Lib.hid (fun _ => by rw [show k + 1 - 1 = k by omega, getD_of htE'.out, hSV'.out]), Lib.hid (fun h => absurd h (by omega)), by first | omega | (simp; omega), K, Lib.hid (by rw [show k + 1 - 1 = k by omega, getD_of htE'.out]; exact hN.out)⟩
              case measure => simp [intOf]; omega
            · by_cases hlt9 : e1 < fin * e2
              · have hmb := mul_bd hfb.1 hfb.2 he20 he21
                have hN := Lib.hid (show (outs ++ [(e1, e2)]) ++ passRef SP MF fin (-1) (-1) (e1, e2) t (E.drop (k + 1)) = PL by rw [← hG.out, hGt.out]; simp [hlt9])
                have K2 := K.below (below_new wx (.cells #[.int .i64 e1, .int .i64 e2] 86))
                clear hG hGt K2
                go_wp2_with (at_builtin; refine wpList_app rfl (.tmp 77) (.tmp 79) 77 rfl Tryz.underlying77 info_fr rfl (by omega) (by omega) K.o rfl rfl (by first | rfl | (simp; done)) rfl (by simp [Value.oneCell']) (by omega) K.l3 ?_; intro v4 w4 hown4 hg4)
                have K4 := K.app (p := (e1, e2)) hown4 hg4
                clear hown4 hg4 zq yq z0 z1 K
                go_roundw
                case rel => exact ⟨k + 1, (-1), (-1), e1, e2, outs ++ [(e1, e2)], by omega, by go_num, rfl, rfl, Lib.hid (by simp), Lib.hid (by simp), by omega, by omega, Lib.hid (fun _ => by rw [show k + 1 - 1 = k by omega, getD_of htE'.out, hSV'.out]), Lib.hid (fun h => absurd h (by omega)), by first | omega | (simp; omega), K4, Lib.hid (by rw [show k + 1 - 1 = k by omega, getD_of htE'.out]; exact hN.out)⟩
                case measure => simp [intOf]; omega
              · have hmb := mul_bd hfb.1 hfb.2 he20 he21
                have hN := Lib.hid (show outs ++ passRef SP MF fin (-1) (-1) (e1, e2) t (E.drop (k + 1)) = PL by rw [← hG.out, hGt.out]; simp [hlt9])
                clear hG hGt
                go_wp2
                go_roundw
                case rel => exact ⟨k + 1, (-1), (-1), e1, e2, outs, by omega, by go_num, rfl, rfl, Lib.hid (by simp), Lib.hid (by simp), by omega, by omega, Lib.hid (fun _ => by rw [show k + 1 - 1 = k by omega, getD_of htE'.out, hSV'.out]), Lib.hid (fun h => absurd h (by omega)), by first | omega | (simp; omega), K, Lib.hid (by rw [show k + 1 - 1 = k by omega, getD_of htE'.out]; exact hN.out)⟩
                case measure => simp [intOf]; omega
          · subst h0
            rcases hS3'.out with rfl | rfl | rfl
            · clear zq yq
              have hN := Lib.hid (show outs ++ passRef SP MF fin (-1) (-1) (e1, e2) t (E.drop (k + 1)) = PL by rw [← hG.out, hGt.out]; simp)
              clear hG hGt
              go_wp2
              go_roundw
              case rel => exact ⟨k + 1, (-1), (-1), e1, e2, outs, by omega, by go_num, rfl, rfl, Lib.hid (by simp), Lib.hid (by simp), by omega, by omega, Lib.hid (fun _ => by rw [show k + 1 - 1 = k by omega, getD_of htE'.out, hSV'.out]), Lib.hid (fun h => absurd h (by omega)), by first | omega | (simp; omega), K, Lib.hid (by rw [show k + 1 - 1 = k by omega, getD_of htE'.out]; exact hN.out)⟩
              case measure => simp [intOf]; omega
            · clear zq yq
              have hN := Lib.hid (show outs ++ passRef SP MF fin (-1) (-1) (e1, e2) t (E.drop (k + 1)) = PL by rw [← hG.out, hGt.out]; simp)
              clear hG hGt
              go_wp2
              go_roundw
              case rel => exact ⟨k + 1, (-1), (-1), e1, e2, outs, by omega, by go_num, rfl, rfl, Lib.hid (by simp), Lib.hid (by simp), by omega, by omega, Lib.hid (fun _ => by rw [show k + 1 - 1 = k by omega, getD_of htE'.out, hSV'.out]), Lib.hid (fun h => absurd h (by omega)), by first | omega | (simp; omega), K, Lib.hid (by rw [show k + 1 - 1 = k by omega, getD_of htE'.out]; exact hN.out)⟩
              case measure => simp [intOf]; omega
            · have hk0 : 0 < k := by rcases Nat.eq_zero_or_pos k with h | h; exact absurd (hP0.out h) (by decide); exact h
              have hPe := hPr.out hk0
              obtain ⟨bE', oE', e0, hEA, lE, h0E, c0E⟩ := K.e.at_ (k := k - 1) (by omega)
              injection hEA with hEA
              injection hEA with q1 q2
              subst q1 q2
              rw [getD_of h0E] at hPe
              obtain ⟨het, hd0, hm0, hlt9⟩ := hstep'.out (k - 1) e0 t h0E (by rw [show k - 1 + 1 = k by omega]; exact htE'.out) (by rw [hSV'.out]; decide) (by rw [hSV'.out, ← hPe]; try rfl)
              have hbe := hbd'.out e0 (List.mem_of_getElem? h0E)
              have hxa : ∃ x ∈ la, e0 < x := by obtain ⟨x, h7, h8⟩ := hxA.out; exact ⟨x, h7, by omega⟩
              have hxb : ∃ x ∈ lb, e0 < x := by obtain ⟨x, h7, h8⟩ := hxB.out; exact ⟨x, h7, by omega⟩
              have hEq' := Lib.hid (fun W (h : Below w.heap.size w W) => hEq.out e0 W (haW.out W h) (hbW.out W h) hxa hxb hd0 hm0)
              obtain ⟨hm1, hm2⟩ := hMb.out e0 hd0 hxa hxb
              generalize hM0 : MF e0 = M0 at *
              obtain ⟨u1, u2⟩ := M0
              dsimp only at *
              have hN := Lib.hid (show (outs ++ [(u1, u2)]) ++ passRef SP MF fin (-1) (-1) (u1, u2) t (E.drop (k + 1)) = PL by rw [← hG.out, hGt.out, getD_of h0E]; simp [hM0, hlt9])
              have hmb := mul_bd hfb.1 hfb.2 hm1 hm2
              have w1 : IntKind.i64.wrap ((k : Int) - 1) = (k : Int) - 1 := IntWalk.i64_in _ (by omega)
              have w2 : 0 ≤ (k : Int) - 1 := by omega
              have w3 : ((k : Int) - 1).toNat = k - 1 := by omega
              have w4 : (k : Int) - 1 < L := by omega
              have w5 : (1 : Int) ≤ (k : Int) := by omega
              clear hG hGt hM0 hPe h0E hxa hxb hd0 hm0 het zq yq hEq hMb hstep' haW hbW hxA hxB
              go_wp2_with fail
              refine (hEq'.out _ K.b).mono ?_; rintro e9 w8 ⟨rfl, B8⟩
              have K8 := K.below B8
              obtain ⟨zq, yq⟩ := blk_facts K8.q
              have lq8 := lt_of_heap K8.q
              have K9 := K8.set u1 u2
              clear B8 K lq c0E hEq'
              go_wp2_with (at_builtin; refine wpList_app rfl (.tmp 77) (.tmp 79) 77 rfl Tryz.underlying77 info_fr rfl (by omega) (by omega) K9.o rfl rfl (by first | rfl | (simp; done)) rfl (by simp [Value.oneCell']) (by omega) K9.l3 ?_; intro v4 w4 hown4 hg4)
              have K4 := K9.app (p := (u1, u2)) hown4 hg4
              clear hown4 hg4 zq yq K8 K9
              go_roundw
              case rel => exact ⟨k + 1, (-1), (-1), u1, u2, outs ++ [(u1, u2)], by omega, by go_num, rfl, rfl, Lib.hid (by simp), Lib.hid (by simp), by omega, by omega, Lib.hid (fun _ => by rw [show k + 1 - 1 = k by omega, getD_of htE'.out, hSV'.out]), Lib.hid (fun h => absurd h (by omega)), by first | omega | (simp; omega), K4, Lib.hid (by rw [show k + 1 - 1 = k by omega, getD_of htE'.out]; exact hN.out)⟩
              case measure => simp [intOf]; omega
        · have K2 := K.set t 1
          have hN := Lib.hid (show outs ++ passRef SP MF fin sS 0 (t, 1) t (E.drop (k + 1)) = PL by rw [← hG.out, hGt.out]; simp)
          clear hG hGt K
          go_wp2
          go_roundw
          case rel => exact ⟨k + 1, sS, 0, t, 1, outs, by omega, by go_num, rfl, rfl, hS3', Lib.hid (.inl rfl), by omega, by omega, Lib.hid (fun _ => by rw [show k + 1 - 1 = k by omega, getD_of htE'.out, hSV'.out]), Lib.hid (fun _ => rfl), by omega, K2, Lib.hid (by rw [show k + 1 - 1 = k by omega, getD_of htE'.out]; exact hN.out)⟩
          case measure => simp [intOf]; omega
        · rcases hSB.out with h0 | h0
          · subst h0
            have z0 := zq 0
            have z1 := zq 1
            rcases hS3'.out with rfl | rfl | rfl
            · by_cases hlt9 : e1 < fin * e2
              · have hmb := mul_bd hfb.1 hfb.2 he20 he21
                have hN := Lib.hid (show (outs ++ [(e1, e2)]) ++ passRef SP MF fin (1) (1) (e1, e2) t (E.drop (k + 1)) = PL by rw [← hG.out, hGt.out]; simp [hlt9])
                have K2 := K.below (below_new wx (.cells #[.int .i64 e1, .int .i64 e2] 86))
                clear hG hGt K2
                go_wp2_with (at_builtin; refine wpList_app rfl (.tmp 77) (.tmp 79) 77 rfl Tryz.underlying77 info_fr rfl (by omega) (by omega) K.o rfl rfl (by first | rfl | (simp; done)) rfl (by simp [Value.oneCell']) (by omega) K.l3 ?_; intro v4 w4 hown4 hg4)
                have K4 := K.app (p := (e1, e2)) hown4 hg4
                clear hown4 hg4 zq yq z0 z1 K
                go_roundw
                case rel => exact ⟨k + 1, (1), (1), e1, e2, outs ++ [(e1, e2)], by omega, by go_num, rfl, rfl, Lib.hid (by simp), Lib.hid (by simp), by omega, by omega, Lib.hid (fun _ => by rw [show k + 1 - 1 = k by omega, getD_of htE'.out, hSV'.out]), Lib.hid (fun h => absurd h (by omega)), by first | omega | (simp; omega), K4, Lib.hid (by rw [show k + 1 - 1 = k by omega, getD_of htE'.out]; exact hN.out)⟩
                case measure => simp [intOf]; omega
              · have hmb := mul_bd hfb.1 hfb.2 he20 he21
                have hN := Lib.hid (show outs ++ passRef SP MF fin (1) (1) (e1, e2) t (E.drop (k + 1)) = PL by rw [← hG.out, hGt.out]; simp [hlt9])
                clear hG hGt
                go_wp2
                go_roundw
                case rel => exact ⟨k + 1, (1), (1), e1, e2, outs, by omega, by go_num, rfl, rfl, Lib.hid (by simp), Lib.hid (by simp), by omega, by omega, Lib.hid (fun _ => by rw [show k + 1 - 1 = k by omega, getD_of htE'.out, hSV'.out]), Lib.hid (fun h => absurd h (by omega)), by first | omega | (simp; omega), K, Lib.hid (by rw [show k + 1 - 1 = k by omega, getD_of htE'.out]; exact hN.out)⟩
                case measure => simp [intOf]; omega
            · clear zq yq
              have hN := Lib.hid (show outs ++ passRef SP MF fin (1) (1) (e1, e2) t (E.drop (k + 1)) = PL by rw [← hG.out, hGt.out]; simp)
              clear hG hGt
              go_wp2
              go_roundw
              case rel => exact ⟨k + 1, (1), (1), e1, e2, outs, by omega, by go_num, rfl, rfl, Lib.hid (by simp), Lib.hid (by simp), by omega, by omega, Lib.hid (fun _ => by rw [show k + 1 - 1 = k by omega, getD_of htE'.out, hSV'.out]), Lib.hid (fun h => absurd h (by omega)), by first | omega | (simp; omega), K, Lib.hid (by rw [show k + 1 - 1 = k by omega, getD_of htE'.out]; exact hN.out)⟩
              case measure => simp [intOf]; omega
            · clear zq yq
              have hN := Lib.hid (show outs ++ passRef SP MF fin (1) (1) (e1, e2) t (E.drop (k + 1)) = PL by rw [← hG.out, hGt.out]; simp)
              clear hG hGt
              go_wp2
              go_roundw
              case rel => exact ⟨k + 1, (1), (1), e1, e2, outs, by omega, by go_num, rfl, rfl, Lib.hid (by simp), Lib.hid (by simp), by omega, by omega, Lib.hid (fun _ => by rw [show k + 1 - 1 = k by omega, getD_of htE'.out, hSV'.out]), Lib.hid (fun h => absurd h (by omega)), by first | omega | (simp; omega), K, Lib.hid (by rw [show k + 1 - 1 = k by omega, getD_of htE'.out]; exact hN.out)⟩
              case measure => simp [intOf]; omega
          · subst h0
            rcases hS3'.out with rfl | rfl | rfl
            · have hk0 : 0 < k := by rcases Nat.eq_zero_or_pos k with h | h; exact absurd (hP0.out h) (by decide); exact h
              have hPe := hPr.out hk0
              obtain ⟨bE', oE', e0, hEA, lE, h0E, c0E⟩ := K.e.at_ (k := k - 1) (by omega)
              injection hEA with hEA
              injection hEA with q1 q2
              subst q1 q2
              rw [getD_of h0E] at hPe
              obtain ⟨het, hd0, hm0, hlt9⟩ := hstep'.out (k - 1) e0 t h0E (by rw [show k - 1 + 1 = k by omega]; exact htE'.out) (by rw [hSV'.out]; decide) (by rw [hSV'.out, ← hPe]; try rfl)
              have hbe := hbd'.out e0 (List.mem_of_getElem? h0E)
              have hxa : ∃ x ∈ la, e0 < x := by obtain ⟨x, h7, h8⟩ := hxA.out; exact ⟨x, h7, by omega⟩
              have hxb : ∃ x ∈ lb, e0 < x := by obtain ⟨x, h7, h8⟩ := hxB.out; exact ⟨x, h7, by omega⟩
              have hEq' := Lib.hid (fun W (h : Below w.heap.size w W) => hEq.out e0 W (haW.out W h) (hbW.out W h) hxa hxb hd0 hm0)
              obtain ⟨hm1, hm2⟩ := hMb.out e0 hd0 hxa hxb
              generalize hM0 : MF e0 = M0 at *
              obtain ⟨u1, u2⟩ := M0
              dsimp only at *
              have hN := Lib.hid (show (outs ++ [(u1, u2)]) ++ passRef SP MF fin (1) (1) (u1, u2) t (E.drop (k + 1)) = PL by rw [← hG.out, hGt.out, getD_of h0E]; simp [hM0, hlt9])
              have hmb := mul_bd hfb.1 hfb.2 hm1 hm2
              have w1 : IntKind.i64.wrap ((k : Int) - 1) = (k : Int) - 1 := IntWalk.i64_in _ (by omega)
              have w2 : 0 ≤ (k : Int) - 1 := by omega
              have w3 : ((k : Int) - 1).toNat = k - 1 := by omega
              have w4 : (k : Int) - 1 < L := by omega
              have w5 : (1 : Int) ≤ (k : Int) := by omega
              clear hG hGt hM0 hPe h0E hxa hxb hd0 hm0 het zq yq hEq hMb hstep' haW hbW hxA hxB
              go_wp2_with fail
              refine (hEq'.out _ K.b).mono ?_; rintro e9 w8 ⟨rfl, B8⟩
              have K8 := K.below B8
              obtain ⟨zq, yq⟩ := blk_facts K8.q
              have lq8 := lt_of_heap K8.q
              have K9 := K8.set u1 u2
              clear B8 K lq c0E hEq'
              go_wp2_with (at_builtin; refine wpList_app rfl (.tmp 77) (.tmp 79) 77 rfl Tryz.underlying77 info_fr rfl (by omega) (by omega) K9.o rfl rfl (by first | rfl | (simp; done)) rfl (by simp [Value.oneCell']) (by omega) K9.l3 ?_; intro v4 w4 hown4 hg4)
              have K4 := K9.app (p := (u1, u2)) hown4 hg4
              clear hown4 hg4 zq yq K8 K9
              go_roundw
              case rel => exact ⟨k + 1, (1), (1), u1, u2, outs ++ [(u1, u2)], by omega, by go_num, rfl, rfl, Lib.hid (by simp), Lib.hid (by simp), by omega, by omega, Lib.hid (fun _ => by rw [show k + 1 - 1 = k by omega, getD_of htE'.out, hSV'.out]), Lib.hid (fun h => absurd h (by omega)), by first | omega | (simp; omega), K4, Lib.hid (by rw [show k + 1 - 1 = k by omega, getD_of htE'.out]; exact hN.out)⟩
              case measure => simp [intOf]; omega
            · clear zq yq
              have hN := Lib.hid (show outs ++ passRef SP MF fin (1) (1) (e1, e2) t (E.drop (k + 1)) = PL by rw [← hG.out, hGt.out]; simp)
              clear hG hGt
              go_wp2
              go_roundw
              case rel => exact ⟨k + 1, (1), (1), e1, e2, outs, by omega, by go_num, rfl, rfl, Lib.hid (by simp), Lib.hid (by simp), by omega, by omega, Lib.hid (fun _ => by rw [show k + 1 - 1 = k by omega, getD_of htE'.out, hSV'.out]), Lib.hid (fun h => absurd h (by omega)), by first | omega | (simp; omega), K, Lib.hid (by rw [show k + 1 - 1 = k by omega, getD_of htE'.out]; exact hN.out)⟩
              case measure => simp [intOf]; omega
            · clear zq yq
              have hN := Lib.hid (show outs ++ passRef SP MF fin (1) (1) (e1, e2) t (E.drop (k + 1)) = PL by rw [← hG.out, hGt.out]; simp)
              clear hG hGt
              go_wp2
              go_roundw
              case rel => exact ⟨k + 1, (1), (1), e1, e2, outs, by omega, by go_num, rfl, rfl, Lib.hid (by simp), Lib.hid (by simp), by omega, by omega, Lib.hid (fun _ => by rw [show k + 1 - 1 = k by omega, getD_of htE'.out, hSV'.out]), Lib.hid (fun h => absurd h (by omega)), by first | omega | (simp; omega), K, Lib.hid (by rw [show k + 1 - 1 = k by omega, getD_of htE'.out]; exact hN.out)⟩
              case measure => simp [intOf]; omega
    · obtain rfl : k = L := by omega
      have hfin9 := Lib.hid (show outs = PL by rw [← hG.out, drop_end (by rw [hLh.out]; exact Nat.le_refl _)]; exact (List.append_nil _).symm)
      obtain ⟨A9, c9, rfl⟩ := own_shape K.o
      have hfr : RFr wr A9 outs.length PL := by rw [← hfin9.out]; exact RN.of_own frE_len K.o rfl (by omega)
      have hBz := K.b
      clear K hG
      go_wp2
      go_ret
      exact ⟨A9, outs.length, c9, rfl, hfr, hBz⟩
end Go.Proofs.YtlddeeagnlgciaaGreatDoor
