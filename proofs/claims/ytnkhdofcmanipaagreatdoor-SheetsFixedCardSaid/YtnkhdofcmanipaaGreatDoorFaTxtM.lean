/- The texts of signals: tumbref1.SignalLines, pad.Text. Printed by wip/mksg3.py. -/
import Derived.Test.YtnkhdofcmanipaaGreatDoorFaTxtU
import Derived.Test.YtnkhdofcmanipaaGreatDoorFaTxtK
import Derived.Deep.RegionHeld3
namespace Go.Proofs.YtnkhdofcmanipaaGreatDoor
open Go.RowKit Go.Lib
set_option linter.unusedVariables false

theorem sgText_le (l : List Sg) (k : Nat) : (sgText (l.take k)).length ≤ (sgText l).length := by
  unfold sgText
  conv => rhs; rw [← List.take_append_drop k l, List.flatMap_append, List.length_append]
  omega
theorem sgText_at {l : List Sg} {k : Nat} {x : Sg} (h : l[k]? = some x) : sgText (l.take (k + 1)) = sgText (l.take k) ++ (sgLine x ++ [10]) := by
  rw [List.take_add_one, h]
  unfold sgText
  simp
/-- bounds of what is written -/
def SgWr (x : Sg) : Prop := (1 ≤ x.kind ∧ x.kind ≤ 4) ∧ (-9223372036854775808 ≤ x.no ∧ x.no ≤ 9223372036854775807) ∧ (-9223372036854775808 ≤ x.tm ∧ x.tm ≤ 9223372036854775807) ∧ (-9223372036854775808 ≤ x.lane ∧ x.lane ≤ 9223372036854775807) ∧ (-9223372036854775808 ≤ x.time ∧ x.time ≤ 9223372036854775807)
theorem own_lit5 (W : World) (cs : Array Value) (h : cs.size = 5) : (W.alloc (.cells cs 9)).ownsRow W.heap.size 9 1 (.slice (some ⟨W.heap.size, 0, none⟩) 5 5) 5 cs.toList := by
  refine ⟨by simp [h], .inr ⟨W.heap.size, 5, cs, rfl, Nat.le_refl _, heap_alloc_new W _, Nat.le_refl _, by decide, by omega, ?_⟩⟩
  rw [List.take_of_length_le (by simp [h])]
theorem own_tyT {w : World} {B1 B2 s1 s2 n1 n2 : Nat} {e1 e2 : TypeId} {u1 u2 : Value} {x1 x2 : List Value} (h1 : w.ownsRow B1 e1 s1 u1 n1 x1) (h2 : w.ownsRowF B2 e2 s2 u2 n2 x2) (he : e2 ≠ e1) : u2.ownBlock = none ∨ u2.ownBlock ≠ u1.ownBlock := by
  rcases h2.2 with ⟨rfl, _⟩ | ⟨g2, cap2, cur2, fz2, rfl, _, hh2, _⟩
  · exact .inl rfl
  · refine .inr ?_
    rcases h1.2 with ⟨rfl, _⟩ | ⟨g1, cap1, cur1, rfl, _, hh1, _⟩
    · simp [Value.ownBlock]
    · intro e
      have e' : g2 = g1 := by simpa [Value.ownBlock] using e
      subst e'
      rw [hh1] at hh2
      injection hh2 with hh2
      injection hh2 with _ hh2
      exact he hh2.symm
theorem Bd.grownT {B b B2 n : Nat} {l : List UInt8} {u : Value} {xs : List Value} {w w' : World} (h : Bd B b l w) (ho : w.ownsRow B2 9 1 u n xs) (hg : w.grownBy w' u.ownBlock) : Bd B b l w' := by
  obtain ⟨cs, hb⟩ := h.blk
  refine h.grown0 hg (fun e => ?_) fun v hv => own_tyT ho hv (by decide)
  rcases ho.2 with ⟨rfl, _⟩ | ⟨g1, cap1, cur1, rfl, _, hh1, _⟩
  · simp [Value.ownBlock] at e
  · have e' : b = g1 := by simpa [Value.ownBlock] using e
    subst e'
    rw [hh1] at hb
    injection hb with hb
    injection hb with _ hb
    exact absurd hb (by decide)
theorem own_capT {w : World} {B n c : Nat} {A : Option Addr} {xs : List Value} (h : w.ownsRow B 9 1 (.slice A n c) n xs) : n ≤ c := by
  rcases h.2 with ⟨h1, h2, _⟩ | ⟨g9, cap9, cur9, h1, h2⟩
  · injection h1 with _ h3 h4; omega
  · injection h1 with h1 h3 h4; have := h2.2.2.1; omega
theorem bL_line (x : Sg) : sgLine x = join (sgWs x) [32] := rfl
theorem ws_no {x : Sg} (h : x.kind ≠ 4) : sgWs x = [x.dev.data.toList, itoa x.no, sgWord x.kind, itoa x.tm, itoa x.lane] := by unfold sgWs; rw [if_neg h]; rfl
theorem ws_four {x : Sg} (h : x.kind = 4) : sgWs x = [x.dev.data.toList, itoa x.no, sgWord x.kind, itoa x.tm, itoa x.lane, itoa x.time] := by unfold sgWs; rw [if_pos h]; rfl
theorem bL_itoa (n : Int) : bL (itoaS n) = itoa n := by simp [bL, itoaS]
/-- the words of the kinds, as tumbref1.signalWords lays them -/
def sgWds : Array Value := #[.string ⟨#[]⟩, .string ⟨#[115, 116, 97, 114, 116]⟩, .string ⟨#[112, 97, 100]⟩, .string ⟨#[98, 117, 116, 116, 111, 110]⟩, .string ⟨#[119, 97, 116, 99, 104]⟩]
theorem sgWds_at {q : Nat} (h1 : 1 ≤ q) (h2 : q ≤ 4) : sgWds[q]? = some (.string ⟨(sgWord (q : Int)).toArray⟩) := by
  have h : q = 1 ∨ q = 2 ∨ q = 3 ∨ q = 4 := by omega
  rcases h with rfl | rfl | rfl | rfl <;> rfl
theorem signalWords_c (W : World) : Calls Tryz.prog 84 #[] W fun e w' => ∃ g : Nat, e = .returned (.slice (some ⟨g, 0, none⟩) 5 5) ∧ w'.heap[g]? = some (.cells sgWds 9 (0, 0)) ∧ Below W.heap.size W w' := by
  go_enter Tryz.func84, Tryz.ntmps84
  go_wp2
  go_ret
  exact ⟨_, rfl, heap_alloc_new W _, below_new W _⟩
/-- what the region of a line of signals holds: the words' block, the address of the kind's word, the literal -/
structure XW (B kn : Nat) (ws : List Value) (listed : Array Bool) (xs : Nat → Value) (w' : World) : Prop where
  s6 : listed.getD 6 false = true → ∃ g, xs 6 = .slice (some ⟨g, 0, none⟩) 5 5 ∧ w'.heap[g]? = some (.cells sgWds 9 (0, 0))
  s9 : listed.getD 9 false = true → ∃ g, xs 9 = .pointer (some ⟨g, kn, none⟩) ∧ w'.heap[g]? = some (.cells sgWds 9 (0, 0))
  s19 : listed.getD 19 false = true → ∃ g, xs 19 = .slice (some ⟨g, 0, none⟩) 5 5 ∧ w'.ownsRow g 9 1 (.slice (some ⟨g, 0, none⟩) 5 5) 5 ws ∧ B ≤ g
  s20 : listed.getD 20 false = true → listed.getD 19 false = true ∧ xs 20 = xs 19
section
variable {B kn i : Nat} {ws : List Value} {listed : Array Bool} {xs : Nat → Value} {v : Value} {w' w1 : World}
theorem updV_no (xs : Nat → Value) {i j : Nat} (v : Value) (h : i ≠ j) : updV xs i v j = xs j := by unfold updV; rw [if_neg (fun e => h e.symm)]
theorem XW.put (h : XW B kn ws listed xs w') (h6 : i ≠ 6) (h9 : i ≠ 9) (h19 : i ≠ 19) (h20 : i ≠ 20) (Bl : Below w'.heap.size w' w1) : XW B kn ws (listed.setIfInBounds i true) (updV xs i v) w1 := by
  refine ⟨fun q => ?_, fun q => ?_, fun q => ?_, fun q => ?_⟩
  · rw [getD_set_other _ h6] at q
    obtain ⟨g, a, b⟩ := h.s6 q
    exact ⟨g, by rw [updV_no _ _ h6]; exact a, blk_below b Bl⟩
  · rw [getD_set_other _ h9] at q
    obtain ⟨g, a, b⟩ := h.s9 q
    exact ⟨g, by rw [updV_no _ _ h9]; exact a, blk_below b Bl⟩
  · rw [getD_set_other _ h19] at q
    obtain ⟨g, a, b, c⟩ := h.s19 q
    exact ⟨g, by rw [updV_no _ _ h19]; exact a, own_below b Bl, c⟩
  · rw [getD_set_other _ h20] at q
    obtain ⟨a, b⟩ := h.s20 q
    exact ⟨by rw [getD_set_other _ h19]; exact a, by rw [updV_no _ _ h20, updV_no _ _ h19]; exact b⟩
theorem XW.new6 {g : Nat} (h : XW B kn ws listed xs w') (Bl : Below w'.heap.size w' w1) (hg : w1.heap[g]? = some (.cells sgWds 9 (0, 0))) : XW B kn ws (listed.setIfInBounds 6 true) (updV xs 6 (.slice (some ⟨g, 0, none⟩) 5 5)) w1 := by
  refine ⟨fun q => ⟨g, by unfold updV; rw [if_pos rfl], hg⟩, fun q => ?_, fun q => ?_, fun q => ?_⟩
  · rw [getD_set_other _ (by decide)] at q
    obtain ⟨g, a, b⟩ := h.s9 q
    exact ⟨g, by rw [updV_no _ _ (by decide)]; exact a, blk_below b Bl⟩
  · rw [getD_set_other _ (by decide)] at q
    obtain ⟨g, a, b, c⟩ := h.s19 q
    exact ⟨g, by rw [updV_no _ _ (by decide)]; exact a, own_below b Bl, c⟩
  · rw [getD_set_other _ (by decide)] at q
    obtain ⟨a, b⟩ := h.s20 q
    exact ⟨by rw [getD_set_other _ (by decide)]; exact a, by rw [updV_no _ _ (by decide), updV_no _ _ (by decide)]; exact b⟩
theorem XW.new9 {g : Nat} (h : XW B kn ws listed xs w') (hg : w'.heap[g]? = some (.cells sgWds 9 (0, 0))) : XW B kn ws (listed.setIfInBounds 9 true) (updV xs 9 (.pointer (some ⟨g, kn, none⟩))) w' := by
  refine ⟨fun q => ?_, fun q => ⟨g, by unfold updV; rw [if_pos rfl], hg⟩, fun q => ?_, fun q => ?_⟩
  · rw [getD_set_other _ (by decide)] at q
    obtain ⟨g, a, b⟩ := h.s6 q
    exact ⟨g, by rw [updV_no _ _ (by decide)]; exact a, b⟩
  · rw [getD_set_other _ (by decide)] at q
    obtain ⟨g, a, b, c⟩ := h.s19 q
    exact ⟨g, by rw [updV_no _ _ (by decide)]; exact a, b, c⟩
  · rw [getD_set_other _ (by decide)] at q
    obtain ⟨a, b⟩ := h.s20 q
    exact ⟨by rw [getD_set_other _ (by decide)]; exact a, by rw [updV_no _ _ (by decide), updV_no _ _ (by decide)]; exact b⟩
theorem XW.new19 {cs : Array Value} (h : XW B kn cs.toList listed xs w') (h0 : listed.getD 19 true = false) (hc : cs.size = 5) (hB : B ≤ w'.heap.size) : XW B kn cs.toList (listed.setIfInBounds 19 true) (updV xs 19 (.slice (some ⟨w'.heap.size, 0, none⟩) 5 5)) (w'.alloc (.cells cs 9)) := by
  refine ⟨fun q => ?_, fun q => ?_, fun q => ⟨w'.heap.size, by unfold updV; rw [if_pos rfl], own_lit5 w' cs hc, hB⟩, fun q => ?_⟩
  · rw [getD_set_other _ (by decide)] at q
    obtain ⟨g, a, b⟩ := h.s6 q
    exact ⟨g, by rw [updV_no _ _ (by decide)]; exact a, blk_alloc b _⟩
  · rw [getD_set_other _ (by decide)] at q
    obtain ⟨g, a, b⟩ := h.s9 q
    exact ⟨g, by rw [updV_no _ _ (by decide)]; exact a, blk_alloc b _⟩
  · rw [getD_set_other _ (by decide)] at q
    have h1 := (h.s20 q).1
    have h2 := getD_tf h0
    rw [h1] at h2; cases h2
theorem XW.new20 (h : XW B kn ws listed xs w') (h1 : listed.getD 19 false = true) : XW B kn ws (listed.setIfInBounds 20 true) (updV xs 20 (xs 19)) w' := by
  refine ⟨fun q => ?_, fun q => ?_, fun q => ?_, fun q => ⟨by rw [getD_set_other _ (by decide)]; exact h1, by simp [updV]⟩⟩
  · rw [getD_set_other _ (by decide)] at q
    obtain ⟨g, a, b⟩ := h.s6 q
    exact ⟨g, by rw [updV_no _ _ (by decide)]; exact a, b⟩
  · rw [getD_set_other _ (by decide)] at q
    obtain ⟨g, a, b⟩ := h.s9 q
    exact ⟨g, by rw [updV_no _ _ (by decide)]; exact a, b⟩
  · rw [getD_set_other _ (by decide)] at q
    obtain ⟨g, a, b, c⟩ := h.s19 q
    exact ⟨g, by rw [updV_no _ _ (by decide)]; exact a, b, c⟩
end
set_option maxHeartbeats 6400000 in
set_option maxRecDepth 100000 in
theorem sgTextR_c (A : Option Addr) (n c : Nat) (l : List Sg) (w : World) (h : RSg w A n l) (hT : Tb w) (hS : (sgText l).length ≤ 200000) (hx : ∀ x ∈ l, SgWr x) (h0 : sigErr l = 0) :
    Calls Tryz.prog 35 #[.slice A n c] w fun e w' => e = .returned (.tuple #[.string ⟨(sgText l).toArray⟩, .int .i64 0]) ∧ Below w.heap.size w w' := by
  have hCF := Lib.hid (checkSignals_c A n c l w h)
  rw [h0] at hCF
  clear h0
  go_enter Tryz.func35, Tryz.ntmps35
  go_wp2_with fail
  refine hCF.out.mono ?_; rintro e wS ⟨rfl, B1⟩
  replace h := h.below B1
  replace hT := hT.below B1
  have hRet := Lib.hid (fun W (B : Below wS.heap.size wS W) => below_next B1 B)
  clear hCF B1
  have hl := h.len
  have hbd := h.bd
  have hTle := hS
  have hR := Lib.hid (fun W (B : Below wS.heap.size wS W) => h.below B)
  have hTb := Lib.hid (fun W (B : Below wS.heap.size wS W) => hT.below B)
  have hx' := Lib.hid hx
  have hAt := Lib.hid (fun (k : Nat) x (h : l[k]? = some x) => sgText_at h)
  have hLe := Lib.hid (fun (k : Nat) => show (sgText (l.take k)).length ≤ 900000 from Nat.le_trans (sgText_le l k) (by omega))
  have hEnd := Lib.hid (show sgText (l.take n) = sgText l by rw [List.take_of_length_le (by omega)])
  have hB0 := below_new wS (.cells #[.pointer none, .slice none 0 0] 130)
  have hb0 := Bd.start (w := wS)
  clear h hT hx hS
  go_wp2_with fail
  generalize wS.alloc (.cells #[.pointer none, .slice none 0 0] 130) = w1 at *
  go_loopw [7, 8, 16] (fun _ _ i wr => ∃ k : Nat, k ≤ n ∧ i = .int .i64 k ∧ Bd wS.heap.size wS.heap.size (sgText (l.take k)) wr ∧ Below wS.heap.size wS wr) (fun _ _ i _ => n - (intOf i).toNat)
  case atStart => exact ⟨0, Nat.zero_le _, rfl, hb0, hB0⟩
  case round =>
    clear hb0 hB0
    rename World => wr
    obtain ⟨k, hk, rfl, hBd, hB⟩ := hrel
    by_cases hlt : k < n
    · obtain ⟨bs, os, x, rfl, hbl, hxk, c0, c1, c2, c3, c4, c5⟩ := RSg_at6 (hR.out _ hB) hlt
      have hxb := hx'.out x (List.mem_of_getElem? hxk)
      have hAk := Lib.hid (hAt.out k x hxk)
      have hL1 := Lib.hid (hLe.out (k + 1))
      have hws1 := Lib.hid (fun h => ws_no (x := x) h)
      have hws2 := Lib.hid (fun h => ws_four (x := x) h)
      have hwl := Lib.hid (bL_line x)
      obtain ⟨dev, no, kd, tm, ln, ti⟩ := x
      obtain ⟨hb1, hb2, hb3, hb4, hb5⟩ := hxb
      dsimp only at *
      have hn0 := heap_alloc_new wr (.cells #[.string dev, .int .i64 no, .int .i64 kd, .int .i64 tm, .int .i64 ln, .int .i64 ti] 89)
      have hBn := below_new wr (.cells #[.string dev, .int .i64 no, .int .i64 kd, .int .i64 tm, .int .i64 ln, .int .i64 ti] 89)
      have hBd1 := hBd.below hBn
      have hB1 := below_next hB hBn
      clear hxk hBd
      go_wp2_with fail
      generalize wr.alloc (.cells #[.string dev, .int .i64 no, .int .i64 kd, .int .i64 tm, .int .i64 ln, .int .i64 ti] 89) = w3 at *
      have hd0 : w3.drew.heap[wr.heap.size]? = some (.cells #[.string dev, .int .i64 no, .int .i64 kd, .int .i64 tm, .int .i64 ln, .int .i64 ti] 89 (0, 0)) := hn0
      have hBdd : Bd wS.heap.size wS.heap.size (sgText (l.take k)) w3.drew := hBd1
      have hB2d : Below wS.heap.size wS w3.drew := below_drewN hB1 1
      have y3 := And.intro ((blk_facts hd0).1 0) (And.intro ((blk_facts hd0).1 1) (And.intro ((blk_facts hd0).1 2) (And.intro ((blk_facts hd0).1 3) ((blk_facts hd0).1 4))))
      have hit1 := Lib.hid (itoa_c no w3.drew (hTb.out _ hB2d) hb2.1 hb2.2)
      have hit2 := Lib.hid (fun W (B : Below w3.drew.heap.size w3.drew W) => itoa_c tm W (hTb.out _ (below_next hB2d B)) hb3.1 hb3.2)
      have hit3 := Lib.hid (fun W (B : Below w3.drew.heap.size w3.drew W) => itoa_c ln W (hTb.out _ (below_next hB2d B)) hb4.1 hb4.2)
      have hit4 := Lib.hid (fun W (B : Below w3.drew.heap.size w3.drew W) => itoa_c ti W (hTb.out _ (below_next hB2d B)) hb5.1 hb5.2)
      have hwc := Lib.hid (fun W => word_c kd W)
      have hcl := Lib.hid (fun W (B : Below w3.drew.heap.size w3.drew W) => And.intro ((blk_facts (blk_below hd0 B)).1 0) (And.intro ((blk_facts (blk_below hd0 B)).1 1) (And.intro ((blk_facts (blk_below hd0 B)).1 2) (And.intro ((blk_facts (blk_below hd0 B)).1 3) ((blk_facts (blk_below hd0 B)).1 4)))))
      have hcl2 := Lib.hid (fun W (B : Below w3.drew.heap.size w3.drew W) => And.intro ((blk_facts (blk_below hd0 B)).1 2) ((blk_facts (blk_below hd0 B)).1 5))
      have hb6 := Lib.hid (fun W (B : Below w3.drew.heap.size w3.drew W) => And.intro (hBdd.below B) (below_next hB2d B))
      have hg1 := bL_itoa no
      have hg2 := bL_itoa tm
      have hg3 := bL_itoa ln
      have hg4 := bL_itoa ti
      have hgw : bL (⟨(sgWord kd).toArray⟩ : ByteArray) = sgWord kd := by simp [bL]
      clear hn0 hd0 hBdd hBd1 hB1 hB2d hBn c0 c1 c2 c3 c4 c5
      generalize itoaS no = I1 at *
      generalize itoaS tm = I2 at *
      generalize itoaS ln = I3 at *
      generalize itoaS ti = I4 at *
      generalize (⟨(sgWord kd).toArray⟩ : ByteArray) = WD at *
      go_wp2_with fail
      go_region_held3 (fun w' => w'.cell? ⟨wr.heap.size, 0, none⟩ = some (.string dev) ∧ w'.cell? ⟨wr.heap.size, 1, none⟩ = some (.int .i64 no) ∧ w'.cell? ⟨wr.heap.size, 2, none⟩ = some (.int .i64 kd) ∧ w'.cell? ⟨wr.heap.size, 3, none⟩ = some (.int .i64 tm) ∧ w'.cell? ⟨wr.heap.size, 4, none⟩ = some (.int .i64 ln)) (first | go_keep | with_reducible exact y3 | with_reducible exact y5 | with_reducible exact y6 | with_reducible exact y7)
        (first
          | (have q9 := B6; go_at_call 44; with_reducible refine (hit3.out _ (below_next B5 q9)).mono ?_; rintro e w7 ⟨rfl, B7'⟩; have B7 := below_next (below_next B5 q9) B7'; have y7 := hcl.out _ B7)
          | (have q9 := B5; go_at_call 44; with_reducible refine (hit2.out _ q9).mono ?_; rintro e w6 ⟨rfl, B6⟩; have y6 := hcl.out _ (below_next q9 B6))
          | (go_at_call 44; with_reducible refine hit1.out.mono ?_; rintro e w5 ⟨rfl, B5⟩; have y5 := hcl.out _ B5)
          | (go_at_call 77; with_reducible refine (hwc.out _).mono ?_; rintro e w8 ⟨rfl, rfl⟩))
      have hB8 := B7.alloc B7.size (.cells #[.string dev, .string I1, .string WD, .string I2, .string I3] 9)
      have ho8 := own_lit5 w7 #[.string dev, .string I1, .string WD, .string I2, .string I3] rfl
      have y8 := hcl2.out _ hB8
      have q8 := hb6.out _ hB8
      have hSg := (hb6.out _ B7).2.size
      clear B5 B6 B7 hit1 hit2 hit3 hb6
      generalize hw8 : w7.alloc (.cells #[.string dev, .string I1, .string WD, .string I2, .string I3] 9) = w8 at *
      generalize w7.heap.size = g7 at *
      have hz8 : g7 ≤ w8.heap.size := by have := ho8.2; rcases this with ⟨h9, _⟩ | ⟨g9, _, _, h9, _, h8, _⟩; (cases h9); (injection h9 with h9; injection h9 with h9; injection h9 with h9; subst h9; exact Nat.le_of_lt (lt_of_heap h8))
      by_cases h4 : kd = 4
      · subst h4
        go_wp2_with fail
        refine (hit4.out _ hB8).mono ?_; rintro e w9 ⟨rfl, B9⟩
        have ho9 := own_below ho8 B9
        have hBd8 := q8.1.below B9
        have hB9' := below_next q8.2 B9
        have hz9 : g7 ≤ w9.heap.size := Nat.le_trans hz8 B9.size
        clear hit4 hB8 q8 hw8 B9 ho8
        go_wp2_with (at_builtin; refine wpList_app rfl (.tmp 38) (.tmp 42) 96 rfl Tryz.underlying96 info_strT rfl (by omega) (by omega) ho9 rfl rfl (by first | rfl | (simp; done)) rfl (by simp [Value.oneCell']) (by omega) hz9 ?_; intro v6 w6 hown6 hg6)
        have hBd9 := hBd8.grownT ho9 hg6
        have hB9 := below_own hB9' ho9 hg6 hB9'.size hSg
        obtain ⟨A6, c6, rfl⟩ := own_shape hown6
        clear hBd8 hB9' ho9 hg6 hz9 hz8
        have hRS : RS 9 w6 A6 6 [dev, I1, WD, I2, I3, I4] := R1.of_own hown6 (by omega)
        have hcap : 6 ≤ c6 := own_capT hown6
        have hbs : ([dev, I1, WD, I2, I3, I4] : List ByteArray).map bL = [dev.data.toList, itoa no, sgWord 4, itoa tm, itoa ln, itoa ti] := by simp only [List.map_cons, List.map_nil, hg1, hg2, hg3, hg4, hgw]; rfl
        have hln := hwl.out
        rw [hws2.out (by first | rfl | trivial)] at hln
        rw [← hbs] at hln
        have hLn := hL1.out
        rw [hAk.out, hln] at hLn
        simp only [List.length_append, List.length_cons, List.length_nil] at hLn
        have hJ := Lib.hid (joinR_c A6 6 c6 [dev, I1, WD, I2, I3, I4] 32 w6 hRS hcap (by omega))
        have hJs : (⟨(Lib.join (([dev, I1, WD, I2, I3, I4] : List ByteArray).map bL) [32]).toArray⟩ : ByteArray).size = (Lib.join (([dev, I1, WD, I2, I3, I4] : List ByteArray).map bL) [32]).length := by show (Lib.join _ [32]).toArray.size = _; simp
        obtain ⟨J, hJe⟩ : ∃ J, (⟨(Lib.join (([dev, I1, WD, I2, I3, I4] : List ByteArray).map bL) [32]).toArray⟩ : ByteArray) = J := ⟨_, rfl⟩
        have hJd : J.data.toList = Lib.join (([dev, I1, WD, I2, I3, I4] : List ByteArray).map bL) [32] := by rw [← hJe]
        rw [hJe] at hJ hJs
        have hEq : sgText (l.take k) ++ (J ++ ⟨#[10]⟩).data.toList = sgText (l.take (k + 1)) := by rw [hAk.out, hln]; simp [hJd]
        have hsz9 : (J ++ (⟨#[10]⟩ : ByteArray)).size = J.size + 1 := by simp only [ByteArray.size_append]; rfl
        have hlen9 : (sgText (l.take k)).length + (J ++ (⟨#[10]⟩ : ByteArray)).size ≤ 1000000 := by rw [hsz9]; omega
        obtain ⟨ST, hST⟩ : ∃ ST, (J ++ ⟨#[10]⟩ : ByteArray) = ST := ⟨_, rfl⟩
        rw [hST] at hlen9 hEq
        have hW := Lib.hid (fun W (h : Bd wS.heap.size wS.heap.size (sgText (l.take k)) W) hB => wsB_c wS.heap.size wS.heap.size _ ST W h hlen9 hB)
        rw [hEq] at hW
        rw [hST] at hsz9
        subst hST
        have s1 : ¬ 9223372036854775807 < J.size + 1 := by omega
        clear hJd hJe hln hLn hbs hws1 hws2 hwl hAk hL1 hRS hcap hlen9 hsz9 hEq hg1 hg2 hg3 hg4 hgw y8 hcl hcl2 hJs
        go_wp2_with fail
        refine hJ.out.mono ?_; rintro e w10 ⟨rfl, B10⟩
        have hBd10 := hBd9.below B10
        have hB10 := below_next hB9 B10
        clear hJ hBd9 hB9 B10
        go_wp2_with fail
        refine (hW.out _ hBd10 hB10.size).mono ?_; rintro e w11 ⟨rfl, hBd11, B11, _⟩
        have hB11 := hB10.trans B11
        clear hW hBd10 hB10 B11 s1
        go_wp2
        go_roundw
        case rel => exact ⟨k + 1, by omega, by go_num, hBd11, hB11⟩
        case measure => simp [intOf]; omega
      · have e4 : (kd == 4) = false := beq_eq_false_iff_ne.2 h4
        have hBd9 := q8.1
        have hB9 := q8.2
        clear hit4 hB8 q8 hw8
        have hRS : RS 9 w8 (some ⟨g7, 0, none⟩) 5 [dev, I1, WD, I2, I3] := R1.of_own ho8 (by omega)
        have hcap : 5 ≤ 5 := own_capT ho8
        have hbs : ([dev, I1, WD, I2, I3] : List ByteArray).map bL = [dev.data.toList, itoa no, sgWord kd, itoa tm, itoa ln] := by simp only [List.map_cons, List.map_nil, hg1, hg2, hg3, hgw]; rfl
        have hln := hwl.out
        rw [hws1.out h4] at hln
        rw [← hbs] at hln
        have hLn := hL1.out
        rw [hAk.out, hln] at hLn
        simp only [List.length_append, List.length_cons, List.length_nil] at hLn
        have hJ := Lib.hid (joinR_c (some ⟨g7, 0, none⟩) 5 5 [dev, I1, WD, I2, I3] 32 w8 hRS hcap (by omega))
        have hJs : (⟨(Lib.join (([dev, I1, WD, I2, I3] : List ByteArray).map bL) [32]).toArray⟩ : ByteArray).size = (Lib.join (([dev, I1, WD, I2, I3] : List ByteArray).map bL) [32]).length := by show (Lib.join _ [32]).toArray.size = _; simp
        obtain ⟨J, hJe⟩ : ∃ J, (⟨(Lib.join (([dev, I1, WD, I2, I3] : List ByteArray).map bL) [32]).toArray⟩ : ByteArray) = J := ⟨_, rfl⟩
        have hJd : J.data.toList = Lib.join (([dev, I1, WD, I2, I3] : List ByteArray).map bL) [32] := by rw [← hJe]
        rw [hJe] at hJ hJs
        have hEq : sgText (l.take k) ++ (J ++ ⟨#[10]⟩).data.toList = sgText (l.take (k + 1)) := by rw [hAk.out, hln]; simp [hJd]
        have hsz9 : (J ++ (⟨#[10]⟩ : ByteArray)).size = J.size + 1 := by simp only [ByteArray.size_append]; rfl
        have hlen9 : (sgText (l.take k)).length + (J ++ (⟨#[10]⟩ : ByteArray)).size ≤ 1000000 := by rw [hsz9]; omega
        obtain ⟨ST, hST⟩ : ∃ ST, (J ++ ⟨#[10]⟩ : ByteArray) = ST := ⟨_, rfl⟩
        rw [hST] at hlen9 hEq
        have hW := Lib.hid (fun W (h : Bd wS.heap.size wS.heap.size (sgText (l.take k)) W) hB => wsB_c wS.heap.size wS.heap.size _ ST W h hlen9 hB)
        rw [hEq] at hW
        rw [hST] at hsz9
        subst hST
        have s1 : ¬ 9223372036854775807 < J.size + 1 := by omega
        clear hJd hJe hln hLn hbs hws1 hws2 hwl hAk hL1 hRS hcap hlen9 hsz9 hEq hg1 hg2 hg3 hg4 hgw y8 hcl hcl2 hJs
        go_wp2_with fail
        refine hJ.out.mono ?_; rintro e w10 ⟨rfl, B10⟩
        have hBd10 := hBd9.below B10
        have hB10 := below_next hB9 B10
        clear hJ hBd9 hB9 B10
        go_wp2_with fail
        refine (hW.out _ hBd10 hB10.size).mono ?_; rintro e w11 ⟨rfl, hBd11, B11, _⟩
        have hB11 := hB10.trans B11
        clear hW hBd10 hB10 B11 s1
        go_wp2
        go_roundw
        case rel => exact ⟨k + 1, by omega, by go_num, hBd11, hB11⟩
        case measure => simp [intOf]; omega
    · obtain rfl : k = n := by omega
      rw [hEnd.out] at hBd
      have hLen := Lib.hid (Any.Builder_Len_f Tryz.lays170 wS.heap.size wS.heap.size _ wr hBd)
      rw [Lib.byteCells_length] at hLen
      have hSt := Lib.hid (strB_c wS.heap.size wS.heap.size _ wr hBd hB.size)
      have hT3 : ¬ (200000 : Int) < ((sgText l).length : Int) := by omega
      clear hBd hEnd
      go_wp2_with fail
      refine hLen.out.mono ?_; rintro e w8 ⟨rfl, rfl⟩
      go_wp2_with fail
      refine hSt.out.mono ?_; rintro e w9 ⟨rfl, B9⟩
      have hB9 := hRet.out _ (hB.trans B9)
      go_wp2
      go_ret2
      exact ⟨rfl, hB9⟩
set_option maxHeartbeats 6400000 in
set_option maxRecDepth 100000 in
theorem signalLines_c (A : Option Addr) (n c : Nat) (l : List Sg) (w : World) (h : RSg w A n l) (hT : Tb w) (hS : (sgText l).length ≤ 900000) (hx : ∀ x ∈ l, SgWr x) :
    Calls Tryz.prog 37 #[.slice A n c] w fun e w' => e = .returned (.string ⟨(sgText l).toArray⟩) ∧ Below w.heap.size w w' := by
  have hl := h.len
  have hbd := h.bd
  have hR := Lib.hid (fun W (B : Below w.heap.size w W) => h.below B)
  have hTb := Lib.hid (fun W (B : Below w.heap.size w W) => hT.below B)
  have hx' := Lib.hid hx
  have hAt := Lib.hid (fun (k : Nat) x (h : l[k]? = some x) => sgText_at h)
  have hLe := Lib.hid (fun (k : Nat) => show (sgText (l.take k)).length ≤ 900000 from Nat.le_trans (sgText_le l k) (by omega))
  have hEnd := Lib.hid (show sgText (l.take n) = sgText l by rw [List.take_of_length_le (by omega)])
  have hB0 := below_new w (.cells #[.pointer none, .slice none 0 0] 130)
  have hb0 := Bd.start (w := w)
  have hsw := Lib.hid (fun W => signalWords_c W)
  have hcf : ∀ (args : Array Value) (W : World), (callFunc 44 args).run Tryz.prog W = .ok (.enter 44 args) W := enters_of Tryz.func44 (by kernel_rfl) rfl
  clear h hT hx hS
  go_enter Tryz.func37, Tryz.ntmps37
  go_wp2_with fail
  generalize w.alloc (.cells #[.pointer none, .slice none 0 0] 130) = w1 at *
  go_loopw [6, 7, 10] (fun _ _ i wr => ∃ k : Nat, k ≤ n ∧ i = .int .i64 k ∧ Bd w.heap.size w.heap.size (sgText (l.take k)) wr ∧ Below w.heap.size w wr) (fun _ _ i _ => n - (intOf i).toNat)
  case atStart => exact ⟨0, Nat.zero_le _, rfl, hb0, hB0⟩
  case round =>
    clear hb0 hB0
    rename World => wr
    obtain ⟨k, hk, rfl, hBd, hB⟩ := hrel
    by_cases hlt : k < n
    · obtain ⟨bs, os, x, rfl, hbl, hxk, c0, c1, c2, c3, c4, c5⟩ := RSg_at6 (hR.out _ hB) hlt
      have hxb := hx'.out x (List.mem_of_getElem? hxk)
      have hAk := Lib.hid (hAt.out k x hxk)
      have hL1 := Lib.hid (hLe.out (k + 1))
      have hws1 := Lib.hid (fun h => ws_no (x := x) h)
      have hws2 := Lib.hid (fun h => ws_four (x := x) h)
      have hwl := Lib.hid (bL_line x)
      obtain ⟨dev, no, kd, tm, ln, ti⟩ := x
      obtain ⟨hb1, hb2, hb3, hb4, hb5⟩ := hxb
      dsimp only at *
      obtain ⟨kn, rfl⟩ : ∃ kn : Nat, kd = kn := ⟨kd.toNat, by omega⟩
      have hn0 := heap_alloc_new wr (.cells #[.string dev, .int .i64 no, .int .i64 (kn : Int), .int .i64 tm, .int .i64 ln, .int .i64 ti] 89)
      have hBn := below_new wr (.cells #[.string dev, .int .i64 no, .int .i64 (kn : Int), .int .i64 tm, .int .i64 ln, .int .i64 ti] 89)
      have hBd1 := hBd.below hBn
      have hB1 := below_next hB hBn
      clear hxk hBd
      go_wp2_with fail
      generalize wr.alloc (.cells #[.string dev, .int .i64 no, .int .i64 (kn : Int), .int .i64 tm, .int .i64 ln, .int .i64 ti] 89) = w3 at *
      have hd0 : w3.drew.heap[wr.heap.size]? = some (.cells #[.string dev, .int .i64 no, .int .i64 (kn : Int), .int .i64 tm, .int .i64 ln, .int .i64 ti] 89 (0, 0)) := hn0
      have hBdd : Bd w.heap.size w.heap.size (sgText (l.take k)) w3.drew := hBd1
      have hB2d : Below w.heap.size w w3.drew := below_drewN hB1 1
      have y3 := And.intro ((blk_facts hd0).1 0) (And.intro ((blk_facts hd0).1 1) (And.intro ((blk_facts hd0).1 2) (And.intro ((blk_facts hd0).1 3) ((blk_facts hd0).1 4))))
      have hit1 := Lib.hid (itoa_c no w3.drew (hTb.out _ hB2d) hb2.1 hb2.2)
      have hit2 := Lib.hid (fun W (B : Below w3.drew.heap.size w3.drew W) => itoa_c tm W (hTb.out _ (below_next hB2d B)) hb3.1 hb3.2)
      have hit3 := Lib.hid (fun W (B : Below w3.drew.heap.size w3.drew W) => itoa_c ln W (hTb.out _ (below_next hB2d B)) hb4.1 hb4.2)
      have hit4 := Lib.hid (fun W (B : Below w3.drew.heap.size w3.drew W) => itoa_c ti W (hTb.out _ (below_next hB2d B)) hb5.1 hb5.2)
      have hcl := Lib.hid (fun W (B : Below w3.drew.heap.size w3.drew W) => And.intro ((blk_facts (blk_below hd0 B)).1 0) (And.intro ((blk_facts (blk_below hd0 B)).1 1) (And.intro ((blk_facts (blk_below hd0 B)).1 2) (And.intro ((blk_facts (blk_below hd0 B)).1 3) ((blk_facts (blk_below hd0 B)).1 4)))))
      have hit0 := Lib.hid (fun W (B : Below w3.drew.heap.size w3.drew W) => itoa_c no W (hTb.out _ (below_next hB2d B)) hb2.1 hb2.2)
      have hBQ := hB2d.size
      have hkq1 : (0 : Int) ≤ ((kn : Int) : Int) := by omega
      have hkq2 : ((kn : Int) : Int) < 5 := by omega
      have hcl2 := Lib.hid (fun W (B : Below w3.drew.heap.size w3.drew W) => And.intro ((blk_facts (blk_below hd0 B)).1 2) ((blk_facts (blk_below hd0 B)).1 5))
      have hb6 := Lib.hid (fun W (B : Below w3.drew.heap.size w3.drew W) => And.intro (hBdd.below B) (below_next hB2d B))
      have hg1 := bL_itoa no
      have hg2 := bL_itoa tm
      have hg3 := bL_itoa ln
      have hg4 := bL_itoa ti
      have hzw := Lib.hid (fun (W : World) (g : Nat) (h : W.heap[g]? = some (.cells sgWds 9 (0, 0))) => show W.cell? ⟨g, kn, none⟩ = some (.string ⟨(sgWord (kn : Int)).toArray⟩) from ((blk_facts h).1 kn).trans (sgWds_at (by omega) (by omega)))
      have hgw : bL (⟨(sgWord (kn : Int)).toArray⟩ : ByteArray) = sgWord (kn : Int) := by simp [bL]
      clear hn0 hd0 hBdd hBd1 hB1 hB2d hBn c0 c1 c2 c3 c4 c5
      generalize itoaS no = I1 at *
      generalize itoaS tm = I2 at *
      generalize itoaS ln = I3 at *
      generalize itoaS ti = I4 at *
      generalize (⟨(sgWord (kn : Int)).toArray⟩ : ByteArray) = WD at *
      go_wp2_with fail
      refine wp_region_inv (by kernel_rfl) (fun listed a w' => ∃ xs : Nat → Value, a = { tmps := #[.slice (some ⟨bs, os, none⟩) n c, undef, .string { data := #[] }, .pointer (some ⟨w.heap.size, 0, none⟩), .func (.func 44) #[] #[], undef, .pointer (some ⟨wr.heap.size, 0, none⟩), xs 20, .slice (some ⟨bs, os, none⟩) n c, .int .i64 ↑n, .int .i64 ↑k, .bool true, .pointer (some ⟨bs, os + k * 6, none⟩), .agg #[.string dev, .int .i64 no, .int .i64 ↑kn, .int .i64 tm, .int .i64 ln, .int .i64 ti], xs 0, xs 1, xs 2, xs 3, xs 4, xs 5, xs 6, xs 7, xs 8, xs 9, xs 10, xs 11, xs 12, xs 13, xs 14, xs 15, xs 16, xs 17, xs 18, xs 19, u34, u35, u36, u37, u38, u39, u40, u41, u42, u43, u44, u45, u46, u47, u48, undef], defers := [] } ∧ (∀ j, listed.getD j false = true → CV [some (.pointer (some ⟨wr.heap.size, 0, none⟩)), some (.string dev), some (.func (.func 44) #[] #[]), some (.pointer (some ⟨wr.heap.size, 1, none⟩)), some (.int .i64 no), some (.string I1), none, some (.pointer (some ⟨wr.heap.size, 2, none⟩)), some (.int .i64 (kn : Int)), none, some (.string WD), some (.func (.func 44) #[] #[]), some (.pointer (some ⟨wr.heap.size, 3, none⟩)), some (.int .i64 tm), some (.string I2), some (.func (.func 44) #[] #[]), some (.pointer (some ⟨wr.heap.size, 4, none⟩)), some (.int .i64 ln), some (.string I3), none, none] j w' (xs j)) ∧ Below w3.drew.heap.size w3.drew w' ∧ XW w.heap.size kn (#[.string dev, .string I1, .string WD, .string I2, .string I3] : Array Value).toList listed xs w') ?h0 (AllOps.of ?hs) ?he
      case h0 => exact ⟨fun j => match j with | 0 => u14 | 1 => u15 | 2 => u16 | 3 => u17 | 4 => u18 | 5 => u19 | 6 => u20 | 7 => u21 | 8 => u22 | 9 => u23 | 10 => u24 | 11 => u25 | 12 => u26 | 13 => u27 | 14 => u28 | 15 => u29 | 16 => u30 | 17 => u31 | 18 => u32 | 19 => u33 | 20 => u7 | _ => undef, rfl, (fun j hj => by rw [rep_falseA] at hj; cases hj), Below.refl _ _, ⟨(fun h => by rw [rep_falseA] at h; cases h), (fun h => by rw [rep_falseA] at h; cases h), (fun h => by rw [rep_falseA] at h; cases h), (fun h => by rw [rep_falseA] at h; cases h)⟩⟩
      case hs =>
        refine ⟨?_, ?_, ?_, ?_, ?_, ?_, ?_, ?_, ?_, ?_, ?_, ?_, ?_, ?_, ?_, ?_, ?_, ?_, ?_, ?_, ?_, trivial⟩
        · intro listed a w' hs hI h0 hd K2 hK
          obtain ⟨xs, rfl, hC, hB0, hX⟩ := hI
          have hK2 := Lib.hid hK
          have hC2 := Lib.hid hC
          clear hd hK hC h0
          go_simp
          exact hK2.out _ _ ⟨updV xs 0 (.pointer (some ⟨wr.heap.size, 0, none⟩)), by simp [updV], cond_set hC2.out (fun _ _ h => h) (CV.of rfl rfl), hB0, hX.put (by decide) (by decide) (by decide) (by decide) (Below.refl _ _)⟩
        · intro listed a w' hs hI h0 hd K2 hK
          obtain ⟨xs, rfl, hC, hB0, hX⟩ := hI
          have e0 : xs 0 = .pointer (some ⟨wr.heap.size, 0, none⟩) := (hC 0 (hd ⟨0, .data⟩ (by simp) rfl)) _ rfl
          obtain ⟨y0, y1, y2, y3, y4⟩ := hcl.out _ hB0
          have hK2 := Lib.hid hK
          have hC2 := Lib.hid hC
          clear hd hK hC h0
          go_simp
          exact hK2.out _ _ ⟨updV xs 1 (.string dev), by simp [updV, e0], cond_set hC2.out (fun _ _ h => h) (CV.of rfl rfl), hB0, hX.put (by decide) (by decide) (by decide) (by decide) (Below.refl _ _)⟩
        · intro listed a w' hs hI h0 hd K2 hK
          obtain ⟨xs, rfl, hC, hB0, hX⟩ := hI
          have hK2 := Lib.hid hK
          have hC2 := Lib.hid hC
          clear hd hK hC h0
          go_simp
          exact hK2.out _ _ ⟨updV xs 2 (.func (.func 44) #[] #[]), by simp [updV], cond_set hC2.out (fun _ _ h => h) (CV.of rfl rfl), hB0, hX.put (by decide) (by decide) (by decide) (by decide) (Below.refl _ _)⟩
        · intro listed a w' hs hI h0 hd K2 hK
          obtain ⟨xs, rfl, hC, hB0, hX⟩ := hI
          have hK2 := Lib.hid hK
          have hC2 := Lib.hid hC
          clear hd hK hC h0
          go_simp
          exact hK2.out _ _ ⟨updV xs 3 (.pointer (some ⟨wr.heap.size, 1, none⟩)), by simp [updV], cond_set hC2.out (fun _ _ h => h) (CV.of rfl rfl), hB0, hX.put (by decide) (by decide) (by decide) (by decide) (Below.refl _ _)⟩
        · intro listed a w' hs hI h0 hd K2 hK
          obtain ⟨xs, rfl, hC, hB0, hX⟩ := hI
          have e3 : xs 3 = .pointer (some ⟨wr.heap.size, 1, none⟩) := (hC 3 (hd ⟨3, .data⟩ (by simp) rfl)) _ rfl
          obtain ⟨y0, y1, y2, y3, y4⟩ := hcl.out _ hB0
          have hK2 := Lib.hid hK
          have hC2 := Lib.hid hC
          clear hd hK hC h0
          go_simp
          exact hK2.out _ _ ⟨updV xs 4 (.int .i64 no), by simp [updV, e3], cond_set hC2.out (fun _ _ h => h) (CV.of rfl rfl), hB0, hX.put (by decide) (by decide) (by decide) (by decide) (Below.refl _ _)⟩
        · intro listed a w' hs hI h0 hd K2 hK
          obtain ⟨xs, rfl, hC, hB0, hX⟩ := hI
          have e2 : xs 2 = .func (.func 44) #[] #[] := (hC 2 (hd ⟨2, .data⟩ (by simp) rfl)) _ rfl
          have e4 : xs 4 = .int .i64 no := (hC 4 (hd ⟨4, .data⟩ (by simp) rfl)) _ rfl
          have hK2 := Lib.hid hK
          have hC2 := Lib.hid hC
          clear hd hK hC h0
          go_simp
          refine (hit0.out _ hB0).mono ?_; rintro e w9 ⟨rfl, B9⟩
          exact hK2.out _ _ ⟨updV xs 5 (.string I1), by simp [updV, e2, e4], cond_set hC2.out (fun _ _ h => h) (CV.of rfl rfl), below_next hB0 B9, hX.put (by decide) (by decide) (by decide) (by decide) B9⟩
        · intro listed a w' hs hI h0 hd K2 hK
          obtain ⟨xs, rfl, hC, hB0, hX⟩ := hI
          have hK2 := Lib.hid hK
          have hC2 := Lib.hid hC
          clear hd hK hC h0
          go_simp
          refine (hsw.out _).mono ?_; rintro e w9 ⟨g9, rfl, hg9, B9⟩
          exact hK2.out _ _ ⟨updV xs 6 (.slice (some ⟨g9, 0, none⟩) 5 5), by simp [updV], cond_set hC2.out (fun _ _ h => h) (CV.free rfl), below_next hB0 B9, hX.new6 B9 hg9⟩
        · intro listed a w' hs hI h0 hd K2 hK
          obtain ⟨xs, rfl, hC, hB0, hX⟩ := hI
          have hK2 := Lib.hid hK
          have hC2 := Lib.hid hC
          clear hd hK hC h0
          go_simp
          exact hK2.out _ _ ⟨updV xs 7 (.pointer (some ⟨wr.heap.size, 2, none⟩)), by simp [updV], cond_set hC2.out (fun _ _ h => h) (CV.of rfl rfl), hB0, hX.put (by decide) (by decide) (by decide) (by decide) (Below.refl _ _)⟩
        · intro listed a w' hs hI h0 hd K2 hK
          obtain ⟨xs, rfl, hC, hB0, hX⟩ := hI
          have e7 : xs 7 = .pointer (some ⟨wr.heap.size, 2, none⟩) := (hC 7 (hd ⟨7, .data⟩ (by simp) rfl)) _ rfl
          obtain ⟨y0, y1, y2, y3, y4⟩ := hcl.out _ hB0
          have hK2 := Lib.hid hK
          have hC2 := Lib.hid hC
          clear hd hK hC h0
          go_simp
          exact hK2.out _ _ ⟨updV xs 8 (.int .i64 (kn : Int)), by simp [updV, e7], cond_set hC2.out (fun _ _ h => h) (CV.of rfl rfl), hB0, hX.put (by decide) (by decide) (by decide) (by decide) (Below.refl _ _)⟩
        · intro listed a w' hs hI h0 hd K2 hK
          obtain ⟨xs, rfl, hC, hB0, hX⟩ := hI
          have e8 : xs 8 = .int .i64 (kn : Int) := (hC 8 (hd ⟨8, .data⟩ (by simp) rfl)) _ rfl
          obtain ⟨g6, e6, hg6⟩ := hX.s6 (hd ⟨6, .data⟩ (by simp) rfl)
          have hK2 := Lib.hid hK
          have hC2 := Lib.hid hC
          clear hd hK hC h0
          go_simp
          exact hK2.out _ _ ⟨updV xs 9 (.pointer (some ⟨g6, kn, none⟩)), by simp [updV, e8, e6], cond_set hC2.out (fun _ _ h => h) (CV.free rfl), hB0, hX.new9 hg6⟩
        · intro listed a w' hs hI h0 hd K2 hK
          obtain ⟨xs, rfl, hC, hB0, hX⟩ := hI
          obtain ⟨g9, e9, hg9⟩ := hX.s9 (hd ⟨9, .data⟩ (by simp) rfl)
          have c9 := hzw.out _ _ hg9
          have hK2 := Lib.hid hK
          have hC2 := Lib.hid hC
          clear hd hK hC h0
          go_simp
          exact hK2.out _ _ ⟨updV xs 10 (.string WD), by simp [updV, e9], cond_set hC2.out (fun _ _ h => h) (CV.of rfl rfl), hB0, hX.put (by decide) (by decide) (by decide) (by decide) (Below.refl _ _)⟩
        · intro listed a w' hs hI h0 hd K2 hK
          obtain ⟨xs, rfl, hC, hB0, hX⟩ := hI
          have hK2 := Lib.hid hK
          have hC2 := Lib.hid hC
          clear hd hK hC h0
          go_simp
          exact hK2.out _ _ ⟨updV xs 11 (.func (.func 44) #[] #[]), by simp [updV], cond_set hC2.out (fun _ _ h => h) (CV.of rfl rfl), hB0, hX.put (by decide) (by decide) (by decide) (by decide) (Below.refl _ _)⟩
        · intro listed a w' hs hI h0 hd K2 hK
          obtain ⟨xs, rfl, hC, hB0, hX⟩ := hI
          have hK2 := Lib.hid hK
          have hC2 := Lib.hid hC
          clear hd hK hC h0
          go_simp
          exact hK2.out _ _ ⟨updV xs 12 (.pointer (some ⟨wr.heap.size, 3, none⟩)), by simp [updV], cond_set hC2.out (fun _ _ h => h) (CV.of rfl rfl), hB0, hX.put (by decide) (by decide) (by decide) (by decide) (Below.refl _ _)⟩
        · intro listed a w' hs hI h0 hd K2 hK
          obtain ⟨xs, rfl, hC, hB0, hX⟩ := hI
          have e12 : xs 12 = .pointer (some ⟨wr.heap.size, 3, none⟩) := (hC 12 (hd ⟨12, .data⟩ (by simp) rfl)) _ rfl
          obtain ⟨y0, y1, y2, y3, y4⟩ := hcl.out _ hB0
          have hK2 := Lib.hid hK
          have hC2 := Lib.hid hC
          clear hd hK hC h0
          go_simp
          exact hK2.out _ _ ⟨updV xs 13 (.int .i64 tm), by simp [updV, e12], cond_set hC2.out (fun _ _ h => h) (CV.of rfl rfl), hB0, hX.put (by decide) (by decide) (by decide) (by decide) (Below.refl _ _)⟩
        · intro listed a w' hs hI h0 hd K2 hK
          obtain ⟨xs, rfl, hC, hB0, hX⟩ := hI
          have e11 : xs 11 = .func (.func 44) #[] #[] := (hC 11 (hd ⟨11, .data⟩ (by simp) rfl)) _ rfl
          have e13 : xs 13 = .int .i64 tm := (hC 13 (hd ⟨13, .data⟩ (by simp) rfl)) _ rfl
          have hK2 := Lib.hid hK
          have hC2 := Lib.hid hC
          clear hd hK hC h0
          go_simp
          refine (hit2.out _ hB0).mono ?_; rintro e w9 ⟨rfl, B9⟩
          exact hK2.out _ _ ⟨updV xs 14 (.string I2), by simp [updV, e11, e13], cond_set hC2.out (fun _ _ h => h) (CV.of rfl rfl), below_next hB0 B9, hX.put (by decide) (by decide) (by decide) (by decide) B9⟩
        · intro listed a w' hs hI h0 hd K2 hK
          obtain ⟨xs, rfl, hC, hB0, hX⟩ := hI
          have hK2 := Lib.hid hK
          have hC2 := Lib.hid hC
          clear hd hK hC h0
          go_simp
          exact hK2.out _ _ ⟨updV xs 15 (.func (.func 44) #[] #[]), by simp [updV], cond_set hC2.out (fun _ _ h => h) (CV.of rfl rfl), hB0, hX.put (by decide) (by decide) (by decide) (by decide) (Below.refl _ _)⟩
        · intro listed a w' hs hI h0 hd K2 hK
          obtain ⟨xs, rfl, hC, hB0, hX⟩ := hI
          have hK2 := Lib.hid hK
          have hC2 := Lib.hid hC
          clear hd hK hC h0
          go_simp
          exact hK2.out _ _ ⟨updV xs 16 (.pointer (some ⟨wr.heap.size, 4, none⟩)), by simp [updV], cond_set hC2.out (fun _ _ h => h) (CV.of rfl rfl), hB0, hX.put (by decide) (by decide) (by decide) (by decide) (Below.refl _ _)⟩
        · intro listed a w' hs hI h0 hd K2 hK
          obtain ⟨xs, rfl, hC, hB0, hX⟩ := hI
          have e16 : xs 16 = .pointer (some ⟨wr.heap.size, 4, none⟩) := (hC 16 (hd ⟨16, .data⟩ (by simp) rfl)) _ rfl
          obtain ⟨y0, y1, y2, y3, y4⟩ := hcl.out _ hB0
          have hK2 := Lib.hid hK
          have hC2 := Lib.hid hC
          clear hd hK hC h0
          go_simp
          exact hK2.out _ _ ⟨updV xs 17 (.int .i64 ln), by simp [updV, e16], cond_set hC2.out (fun _ _ h => h) (CV.of rfl rfl), hB0, hX.put (by decide) (by decide) (by decide) (by decide) (Below.refl _ _)⟩
        · intro listed a w' hs hI h0 hd K2 hK
          obtain ⟨xs, rfl, hC, hB0, hX⟩ := hI
          have e15 : xs 15 = .func (.func 44) #[] #[] := (hC 15 (hd ⟨15, .data⟩ (by simp) rfl)) _ rfl
          have e17 : xs 17 = .int .i64 ln := (hC 17 (hd ⟨17, .data⟩ (by simp) rfl)) _ rfl
          have hK2 := Lib.hid hK
          have hC2 := Lib.hid hC
          clear hd hK hC h0
          go_simp
          refine (hit3.out _ hB0).mono ?_; rintro e w9 ⟨rfl, B9⟩
          exact hK2.out _ _ ⟨updV xs 18 (.string I3), by simp [updV, e15, e17], cond_set hC2.out (fun _ _ h => h) (CV.of rfl rfl), below_next hB0 B9, hX.put (by decide) (by decide) (by decide) (by decide) B9⟩
        · intro listed a w' hs hI h0 hd K2 hK
          obtain ⟨xs, rfl, hC, hB0, hX⟩ := hI
          have e1 : xs 1 = .string dev := (hC 1 (hd ⟨1, .data⟩ (by simp) rfl)) _ rfl
          have e5 : xs 5 = .string I1 := (hC 5 (hd ⟨5, .data⟩ (by simp) rfl)) _ rfl
          have e10 : xs 10 = .string WD := (hC 10 (hd ⟨10, .data⟩ (by simp) rfl)) _ rfl
          have e14 : xs 14 = .string I2 := (hC 14 (hd ⟨14, .data⟩ (by simp) rfl)) _ rfl
          have e18 : xs 18 = .string I3 := (hC 18 (hd ⟨18, .data⟩ (by simp) rfl)) _ rfl
          have h9 := Lib.hid h0
          have hK2 := Lib.hid hK
          have hC2 := Lib.hid hC
          clear hd hK hC h0
          go_simp
          exact hK2.out _ _ ⟨updV xs 19 (.slice (some ⟨w'.heap.size, 0, none⟩) 5 5), by simp [updV, e1, e5, e10, e14, e18], cond_set hC2.out (fun _ _ h => h) (CV.free rfl), hB0.alloc hB0.size _, hX.new19 (cs := #[.string dev, .string I1, .string WD, .string I2, .string I3]) h9.out rfl (Nat.le_trans hBQ hB0.size)⟩
        · intro listed a w' hs hI h0 hd K2 hK
          obtain ⟨xs, rfl, hC, hB0, hX⟩ := hI
          have h9 := Lib.hid (hd ⟨19, .data⟩ (by simp) rfl)
          have hK2 := Lib.hid hK
          have hC2 := Lib.hid hC
          clear hd hK hC h0
          go_simp
          exact hK2.out _ _ ⟨updV xs 20 (xs 19), by simp [updV], cond_set hC2.out (fun _ _ h => h) (CV.free rfl), hB0, hX.new20 h9.out⟩
      case he =>
        intro listed a w' hs hI hr
        obtain ⟨xs, rfl, hC, hB0, hX⟩ := hI
        have hal := all_listed hs hr ⟨rfl, rfl, rfl, rfl, rfl, rfl, rfl, rfl, rfl, rfl, rfl, rfl, rfl, rfl, rfl, rfl, rfl, rfl, rfl, rfl, rfl, trivial⟩
        obtain ⟨hl19, e20⟩ := hX.s20 (hal 20 (by simp))
        obtain ⟨g7, e19, ho8, hBg⟩ := hX.s19 hl19
        rw [e19] at e20
        clear hC hs hr hal hX hl19
        obtain ⟨y82, y85⟩ := hcl2.out _ hB0
        have q8 := hb6.out _ hB0
        have hB8 := hB0
        have hz8 : g7 ≤ w'.heap.size := by have := ho8.2; rcases this with ⟨h9, _⟩ | ⟨g9, _, _, h9, _, h8, _⟩; (cases h9); (injection h9 with h9; injection h9 with h9; injection h9 with h9; subst h9; exact Nat.le_of_lt (lt_of_heap h8))
        have hSg := hBg
        clear hit0 hit1 hit2 hit3 hb6 hB0
        rename World => w8
        rename Nat → Value => zz
        have hw8 := trivial
        by_cases h4 : kn = 4
        · subst h4
          go_wp2_with fail
          refine (hit4.out _ hB8).mono ?_; rintro e w9 ⟨rfl, B9⟩
          have ho9 := own_below ho8 B9
          have hBd8 := q8.1.below B9
          have hB9' := below_next q8.2 B9
          have hz9 : g7 ≤ w9.heap.size := Nat.le_trans hz8 B9.size
          clear hit4 hB8 q8 hw8 B9 ho8
          go_wp2_with (at_builtin; refine wpList_app rfl (.tmp 37) (.tmp 42) 96 rfl Tryz.underlying96 info_strT rfl (by omega) (by omega) ho9 rfl rfl (by first | rfl | (simp; done)) rfl (by simp [Value.oneCell']) (by omega) hz9 ?_; intro v6 w6 hown6 hg6)
          have hBd9 := hBd8.grownT ho9 hg6
          have hB9 := below_own hB9' ho9 hg6 hB9'.size hSg
          obtain ⟨A6, c6, rfl⟩ := own_shape hown6
          clear hBd8 hB9' ho9 hg6 hz9 hz8
          have hRS : RS 9 w6 A6 6 [dev, I1, WD, I2, I3, I4] := R1.of_own hown6 (by omega)
          have hcap : 6 ≤ c6 := own_capT hown6
          have hbs : ([dev, I1, WD, I2, I3, I4] : List ByteArray).map bL = [dev.data.toList, itoa no, sgWord ((4 : Nat) : Int), itoa tm, itoa ln, itoa ti] := by simp only [List.map_cons, List.map_nil, hg1, hg2, hg3, hg4, hgw]; rfl
          have hln := hwl.out
          rw [hws2.out (by first | rfl | trivial)] at hln
          rw [← hbs] at hln
          have hLn := hL1.out
          rw [hAk.out, hln] at hLn
          simp only [List.length_append, List.length_cons, List.length_nil] at hLn
          have hJ := Lib.hid (joinR_c A6 6 c6 [dev, I1, WD, I2, I3, I4] 32 w6 hRS hcap (by omega))
          have hJs : (⟨(Lib.join (([dev, I1, WD, I2, I3, I4] : List ByteArray).map bL) [32]).toArray⟩ : ByteArray).size = (Lib.join (([dev, I1, WD, I2, I3, I4] : List ByteArray).map bL) [32]).length := by show (Lib.join _ [32]).toArray.size = _; simp
          obtain ⟨J, hJe⟩ : ∃ J, (⟨(Lib.join (([dev, I1, WD, I2, I3, I4] : List ByteArray).map bL) [32]).toArray⟩ : ByteArray) = J := ⟨_, rfl⟩
          have hJd : J.data.toList = Lib.join (([dev, I1, WD, I2, I3, I4] : List ByteArray).map bL) [32] := by rw [← hJe]
          rw [hJe] at hJ hJs
          have hEq : sgText (l.take k) ++ (J ++ ⟨#[10]⟩).data.toList = sgText (l.take (k + 1)) := by rw [hAk.out, hln]; simp [hJd]
          have hsz9 : (J ++ (⟨#[10]⟩ : ByteArray)).size = J.size + 1 := by simp only [ByteArray.size_append]; rfl
          have hlen9 : (sgText (l.take k)).length + (J ++ (⟨#[10]⟩ : ByteArray)).size ≤ 1000000 := by rw [hsz9]; omega
          obtain ⟨ST, hST⟩ : ∃ ST, (J ++ ⟨#[10]⟩ : ByteArray) = ST := ⟨_, rfl⟩
          rw [hST] at hlen9 hEq
          have hW := Lib.hid (fun W (h : Bd w.heap.size w.heap.size (sgText (l.take k)) W) hB => wsB_c w.heap.size w.heap.size _ ST W h hlen9 hB)
          rw [hEq] at hW
          rw [hST] at hsz9
          subst hST
          have s1 : ¬ 9223372036854775807 < J.size + 1 := by omega
          clear hJd hJe hln hLn hbs hws1 hws2 hwl hAk hL1 hRS hcap hlen9 hsz9 hEq hg1 hg2 hg3 hg4 hgw hcl hcl2 hJs
          go_wp2_with fail
          refine hJ.out.mono ?_; rintro e w10 ⟨rfl, B10⟩
          have hBd10 := hBd9.below B10
          have hB10 := below_next hB9 B10
          clear hJ hBd9 hB9 B10
          go_wp2_with fail
          refine (hW.out _ hBd10 hB10.size).mono ?_; rintro e w11 ⟨rfl, hBd11, B11, _⟩
          have hB11 := hB10.trans B11
          clear hW hBd10 hB10 B11 s1
          go_wp2
          go_roundw
          case rel =>
            refine ⟨_, _, _, _, _, _, _, _, _, _, _, _, _, _, _, _, _, _, _, _, _, _, _, _, _, _, _, _, _, _, _, _, _, _, _, _, _, _, _, _, _, ⟨k + 1, by omega, ?_, hBd11, hB11⟩, rfl⟩
            go_num
          case measure => simp [intOf]; omega
        · have h4 : (kn : Int) ≠ 4 := by omega
          have e4 : ((kn : Int) == 4) = false := beq_eq_false_iff_ne.2 h4
          have hBd9 := q8.1
          have hB9 := q8.2
          clear hit4 hB8 q8 hw8
          have hRS : RS 9 w8 (some ⟨g7, 0, none⟩) 5 [dev, I1, WD, I2, I3] := R1.of_own ho8 (by omega)
          have hcap : 5 ≤ 5 := own_capT ho8
          have hbs : ([dev, I1, WD, I2, I3] : List ByteArray).map bL = [dev.data.toList, itoa no, sgWord (kn : Int), itoa tm, itoa ln] := by simp only [List.map_cons, List.map_nil, hg1, hg2, hg3, hgw]; rfl
          have hln := hwl.out
          rw [hws1.out h4] at hln
          rw [← hbs] at hln
          have hLn := hL1.out
          rw [hAk.out, hln] at hLn
          simp only [List.length_append, List.length_cons, List.length_nil] at hLn
          have hJ := Lib.hid (joinR_c (some ⟨g7, 0, none⟩) 5 5 [dev, I1, WD, I2, I3] 32 w8 hRS hcap (by omega))
          have hJs : (⟨(Lib.join (([dev, I1, WD, I2, I3] : List ByteArray).map bL) [32]).toArray⟩ : ByteArray).size = (Lib.join (([dev, I1, WD, I2, I3] : List ByteArray).map bL) [32]).length := by show (Lib.join _ [32]).toArray.size = _; simp
          obtain ⟨J, hJe⟩ : ∃ J, (⟨(Lib.join (([dev, I1, WD, I2, I3] : List ByteArray).map bL) [32]).toArray⟩ : ByteArray) = J := ⟨_, rfl⟩
          have hJd : J.data.toList = Lib.join (([dev, I1, WD, I2, I3] : List ByteArray).map bL) [32] := by rw [← hJe]
          rw [hJe] at hJ hJs
          have hEq : sgText (l.take k) ++ (J ++ ⟨#[10]⟩).data.toList = sgText (l.take (k + 1)) := by rw [hAk.out, hln]; simp [hJd]
          have hsz9 : (J ++ (⟨#[10]⟩ : ByteArray)).size = J.size + 1 := by simp only [ByteArray.size_append]; rfl
          have hlen9 : (sgText (l.take k)).length + (J ++ (⟨#[10]⟩ : ByteArray)).size ≤ 1000000 := by rw [hsz9]; omega
          obtain ⟨ST, hST⟩ : ∃ ST, (J ++ ⟨#[10]⟩ : ByteArray) = ST := ⟨_, rfl⟩
          rw [hST] at hlen9 hEq
          have hW := Lib.hid (fun W (h : Bd w.heap.size w.heap.size (sgText (l.take k)) W) hB => wsB_c w.heap.size w.heap.size _ ST W h hlen9 hB)
          rw [hEq] at hW
          rw [hST] at hsz9
          subst hST
          have s1 : ¬ 9223372036854775807 < J.size + 1 := by omega
          clear hJd hJe hln hLn hbs hws1 hws2 hwl hAk hL1 hRS hcap hlen9 hsz9 hEq hg1 hg2 hg3 hg4 hgw hcl hcl2 hJs
          go_wp2_with fail
          refine hJ.out.mono ?_; rintro e w10 ⟨rfl, B10⟩
          have hBd10 := hBd9.below B10
          have hB10 := below_next hB9 B10
          clear hJ hBd9 hB9 B10
          go_wp2_with fail
          refine (hW.out _ hBd10 hB10.size).mono ?_; rintro e w11 ⟨rfl, hBd11, B11, _⟩
          have hB11 := hB10.trans B11
          clear hW hBd10 hB10 B11 s1
          go_wp2
          go_roundw
          case rel =>
            refine ⟨_, _, _, _, _, _, _, _, _, _, _, _, _, _, _, _, _, _, _, _, _, _, _, _, _, _, _, _, _, _, _, _, _, _, _, _, _, _, _, _, _, ⟨k + 1, by omega, ?_, hBd11, hB11⟩, rfl⟩
            go_num
          case measure => simp [intOf]; omega
    · obtain rfl : k = n := by omega
      rw [hEnd.out] at hBd
      have hSt := Lib.hid (strB_c w.heap.size w.heap.size _ wr hBd hB.size)
      clear hBd hEnd
      go_wp2_with fail
      refine hSt.out.mono ?_; rintro e w9 ⟨rfl, B9⟩
      have hB9 := hB.trans B9
      go_wp2
      go_ret
      exact ⟨rfl, hB9⟩
end Go.Proofs.YtnkhdofcmanipaaGreatDoor
