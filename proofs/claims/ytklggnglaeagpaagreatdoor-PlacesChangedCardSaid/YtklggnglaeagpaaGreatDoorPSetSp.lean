import Derived.Test.YtklggnglaeagpaaGreatDoorPScrP
import Derived.DeepKeys4
import Derived.WideKeyPair
import Derived.Test.YtklggnglaeagpaaGreatDoorSortH
import Derived.Test.YtklggnglaeagpaaGreatDoorPP23
import Derived.Laws.StructEq
import Derived.Shelf.SlSortCmp.WholeK
import Derived.Deep.QuietTactic
import Derived.BigQuiet
import Derived.BigGuardPart
/- tumbref1.EmptyOf: the lanes in which nobody swims. -/
namespace Go.Proofs.YtklggnglaeagpaaGreatDoor
open Go.RowKit Go.Shelf Go.Lib Go.Sort
set_option linter.unusedVariables false

/-- somebody swims there -/
def tkn (l : List Sp) (h ln : Int) : Bool := l.any fun x => decide (x.heat = h ∧ x.lane = ln)
def maxG : Int → List Sp → Int
  | m, [] => m
  | m, x :: l => maxG (max m x.heat) l
def lastG : Int → List Sp → Int
  | m, [] => m
  | _, x :: l => lastG x.heat l
/-- what right starts keep -/
structure StsOk (p : Pl) (l : List Sp) : Prop where
  pool : PlOk p
  len : l.length ≤ 300
  all : ∀ x ∈ l, keyB x.who = true ∧ (1 ≤ x.heat ∧ x.heat ≤ 60) ∧ (p.lo ≤ x.lane ∧ x.lane ≤ p.hi)
  last : lastG 0 l = maxG 0 l
/-- what is carried -/
structure EoK (w : World) (p : Pl) (u : Value) (acc : List Sp) (wx : World) : Prop where
  o : wx.ownsRow (w.heap.size + 1) 153 3 u acc.length (acc.flatMap spE)
  pb : PoolB w.heap.size p wx
  bel : Below w.heap.size w wx
  z : w.heap.size + 1 ≤ wx.heap.size
section
variable {w wx w' : World} {p : Pl} {u : Value} {acc : List Sp}
theorem EoK.below (h : EoK w p u acc wx) (B : Below wx.heap.size wx w') : EoK w p u acc w' := ⟨own_below h.o B, h.pb.keep _ _ B, below_next h.bel B, Nat.le_trans h.z B.size⟩
theorem EoK.app (h : EoK w p u acc wx) {v' : Value} (x : Sp) (ho : w'.ownsRow (w.heap.size + 1) 153 3 v' (acc.length + 1) (acc.flatMap spE ++ spE x)) (hg : wx.grownBy w' u.ownBlock) : EoK w p v' (acc ++ [x]) w' := by
  refine ⟨?_, blk_grown h.pb hg (fun e => by have := own_row_lt h.o _ e.symm; omega), below_own h.bel h.o hg h.bel.size (by omega), Nat.le_trans h.z hg.size⟩
  rw [List.length_append, ← flat_snoc]; exact ho
end
end Go.Proofs.YtklggnglaeagpaaGreatDoor

/- map[heat.slot]bool: the keys. -/
namespace Go.Proofs.YtklggnglaeagpaaGreatDoor
open Go.RowKit Go.Shelf Go.Lib Go.Sort
open Go.Maps (Keyed)
set_option linter.unusedVariables false

def sltB (a b : Int) : Lit := .string (keyBytes [.int .i64 a, .int .i64 b])
theorem sltB_inj {a b c d : Int} (ha : -1000 ≤ a ∧ a ≤ 1000) (hb : -1000 ≤ b ∧ b ≤ 1000) (hc : -1000 ≤ c ∧ c ≤ 1000) (hd : -1000 ≤ d ∧ d ≤ 1000) (h : sltB a b = sltB c d) : a = c ∧ b = d := by
  have wf : ∀ x : Int, (-1000 ≤ x ∧ x ≤ 1000) → (Lit.int .i64 x).wf = true := fun x hx => by simp [Lit.wf, IntKind.min, IntKind.max, IntKind.signed, IntKind.bits]; omega
  unfold sltB at h
  injection h with h
  have := keyBytes_inj (l := [.int .i64 a, .int .i64 b]) (l' := [.int .i64 c, .int .i64 d]) ⟨rfl, rfl, trivial⟩ (fun x hx => by
    simp only [List.mem_cons, List.not_mem_nil, or_false] at hx
    rcases hx with rfl | rfl
    · exact wf a ha
    · exact wf b hb) (fun x hx => by
    simp only [List.mem_cons, List.not_mem_nil, or_false] at hx
    rcases hx with rfl | rfl
    · exact wf c hc
    · exact wf d hd) h
  simp at this
  exact this
end Go.Proofs.YtklggnglaeagpaaGreatDoor

/- heat.Empty. -/
namespace Go.Proofs.YtklggnglaeagpaaGreatDoor
open Go.RowKit Go.Shelf Go.Lib Go.Sort
open Go.Maps (Keyed)
set_option linter.unusedVariables false

/-- the lanes that were met -/
def SlI (D : DataW Unit) (l : List Sp) : Prop := Go.Maps.IsMap D ∧ ∀ a b : Int, (-1000 ≤ a ∧ a ≤ 1000) → (-1000 ≤ b ∧ b ≤ 1000) → D.atKey (sltB a b) (.lit (.bool false)) = .lit (.bool (tkn l a b))
theorem SlI.nil : SlI (.map []) [] := ⟨Go.Maps.isMap_empty, fun a b _ _ => by rw [atKey_nil]; rfl⟩
theorem SlI.snoc {D : DataW Unit} {l : List Sp} (h : SlI D l) (x : Sp) (h1 : -1000 ≤ x.heat ∧ x.heat ≤ 1000) (h2 : -1000 ≤ x.lane ∧ x.lane ≤ 1000) : SlI (D.put (sltB x.heat x.lane) (.lit (.bool true))) (l ++ [x]) := by
  refine ⟨h.1.put _ _, fun a b ha hb => ?_⟩
  have e : tkn (l ++ [x]) a b = (tkn l a b || decide (x.heat = a ∧ x.lane = b)) := by
    unfold tkn
    rw [List.any_append]; simp
  rw [e]
  by_cases hc : x.heat = a ∧ x.lane = b
  · obtain ⟨rfl, rfl⟩ := hc
    rw [Go.Maps.atKey_put_same h.1 (by trivial)]
    simp
  · rw [Go.Maps.atKey_put_other (fun e2 => hc (by obtain ⟨i1, i2⟩ := sltB_inj ha hb h1 h2 e2; exact ⟨i1.symm, i2.symm⟩)), h.2 a b ha hb, decide_eq_false hc, Bool.or_false]
section
variable {w wx w' : World} {p : Pl} {bm q : Nat} {D : DataW Unit} {u : Value} {acc : List Sp}
end
end Go.Proofs.YtklggnglaeagpaaGreatDoor

/- api.Start: ==, slices.Equal, Index, Contains, Clone, SortFunc. Printed by wip/genset.py. -/
namespace Go.Proofs.YtklggnglaeagpaaGreatDoor
open Go.RowKit Go.Shelf Go.Lib Go.Sort
set_option linter.unusedVariables false

theorem str_neS {a b : ByteArray} (h : a ≠ b) : (a.toList == b.toList) = false := by
  rw [beq_eq_false_iff_ne, ByteArray.toList_eq, ByteArray.toList_eq]
  intro e
  exact h (by cases a; cases b; congr 1; exact Array.toList_inj.mp e)
instance : DecidableEq Sp := fun a b => decidable_of_iff (a.who = b.who ∧ a.heat = b.heat ∧ a.lane = b.lane) ⟨fun h => by
  obtain ⟨x0, x1, x2⟩ := a
  obtain ⟨y0, y1, y2⟩ := b
  obtain ⟨rfl, rfl, rfl⟩ := h
  rfl, fun h => by subst h; exact ⟨rfl, rfl, rfl⟩⟩
set_option maxHeartbeats 3200000 in
set_option maxRecDepth 100000 in
theorem equalSp_c (A1 A2 : Option Addr) (n c m d : Nat) (l1 l2 : List Sp) (w : World) (h1 : RSp w A1 n l1) (h2 : RSp w A2 m l2) :
    Calls Tryz.prog 85 #[.slice A1 n c, .slice A2 m d] w fun e w' => e = .returned (.bool (decide (l1 = l2))) ∧ ∃ q, w' = w.drewN q := by
  have b1 := h1.bd
  have b2 := h2.bd
  by_cases hnm : n = m
  rotate_left
  · have hd : decide (l1 = l2) = false := by simp; rintro rfl; have := h1.len; have := h2.len; omega
    have hne : ((n : Int) != (m : Int)) = true := by rw [bne_iff_ne]; omega
    rw [hd]
    clear hd
    go_enter Tryz.func85, Tryz.ntmps85
    go_wp2
    go_ret
    exact ⟨rfl, 0, rfl⟩
  subst hnm
  have hL1 := Lib.hid h1.len
  have hL2 := Lib.hid h2.len
  go_enter Tryz.func85, Tryz.ntmps85
  go_wp2
  go_loopw [13] (fun i wr => ∃ k q : Nat, k ≤ n ∧ i = .int .i64 k ∧ wr = w.drewN q ∧ Hid (∀ j, j < k → l1[j]? = l2[j]?)) (fun i _ => n - (intOf i).toNat)
  case atStart => exact ⟨0, 0, Nat.zero_le _, rfl, rfl, Lib.hid (fun j h => absurd h (by omega))⟩
  case round =>
    obtain ⟨k, q0, hk, rfl, rfl, hF⟩ := hrel
    by_cases hlt : k < n
    · obtain ⟨b, off, x, rfl, hbl, hx, c0, c1, c2⟩ := RSp_at3 h1 hlt
      obtain ⟨b', off', y, rfl, hbl', hy, e0, e1, e2⟩ := RSp_at3 h2 hlt
      have hx' := Lib.hid hx
      have hy' := Lib.hid hy
      clear hx hy
      by_cases hxy : x = y
      · subst hxy
        obtain ⟨x0, x1, x2⟩ := x
        dsimp only at *
        go_wp2
        go_quiet (fail)
        go_wp2
        go_roundw
        case rel => exact ⟨k + 1, _, by omega, by go_num, rfl, Lib.hid (fun j hj => by
          by_cases hjk : j = k
          · subst hjk; rw [hx'.out, hy'.out]
          · exact hF.out j (by omega))⟩
        case measure => simp [intOf]; omega
      · obtain ⟨x0, x1, x2⟩ := x
        obtain ⟨y0, y1, y2⟩ := y
        dsimp only at c0 c1 c2 e0 e1 e2
        have hcases : ((x0.toList == y0.toList) = false) ∨ (x0 = y0 ∧ (((x1 == y1) = false) ∨ (x1 = y1 ∧ ((x2 == y2) = false)))) := by
          by_cases q0 : x0 = y0
          · refine .inr ⟨q0, ?_⟩
            by_cases q1 : x1 = y1
            · refine .inr ⟨q1, ?_⟩
              exact beq_eq_false_iff_ne.2 (fun q2 => hxy (by rw [q0, q1, q2]))
            · exact .inl (beq_eq_false_iff_ne.2 q1)
          · exact .inl (str_neS q0)
        have hfin : Hid (decide (l1 = l2) = false) := Lib.hid (by
          simp only [decide_eq_false_iff_not]
          rintro rfl
          rw [hx'.out] at hy'
          exact hxy (Option.some.inj hy'.out))
        clear hxy
        rcases hcases with h0 | ⟨rfl, h1 | ⟨rfl, h2⟩⟩
        all_goals
          go_wp2
          go_quiet (fail)
          go_wp2
          go_ret
          exact ⟨ret_b (by rw [hfin.out]), _, by rw [World.drewN_drewN]⟩
    · have hfin : Hid (decide (l1 = l2) = true) := Lib.hid (by
        simp only [decide_eq_true_eq]
        apply List.ext_getElem?; intro j
        by_cases hj : j < n
        · exact hF.out j (by omega)
        · rw [List.getElem?_eq_none (by rw [hL1.out]; omega), List.getElem?_eq_none (by rw [hL2.out]; omega)])
      go_wp2
      go_ret
      exact ⟨ret_b (by rw [hfin.out]), _, rfl⟩
theorem spLtF_iff (x y : Sp) : ltOf spCf x y = true ↔ x.heat < y.heat ∨ (x.heat = y.heat ∧ x.lane < y.lane) := by
  have e : ltOf spCf x y = decide (spCf x y < 0) := rfl
  rw [e, decide_eq_true_iff, spCf_val]
  unfold Lib.compareInt
  split <;> (repeat' split) <;> omega
theorem spLtF_no (x y : Sp) : ltOf spCf x y = false ↔ ¬ (x.heat < y.heat ∨ (x.heat = y.heat ∧ x.lane < y.lane)) := by
  rw [← spLtF_iff, Bool.not_eq_true]
theorem spFWO : SWO (ltOf spCf) := by
  refine ⟨fun x => ?_, fun x y z => ?_, fun x y z => ?_⟩
  · rw [spLtF_no]; omega
  · rw [spLtF_iff, spLtF_iff, spLtF_iff]; omega
  · rw [spLtF_no, spLtF_no, spLtF_no]; omega
/-- sorted as they are -/
def SpSortF (l l' : List Sp) : Prop := l'.Perm l ∧ l'.Pairwise fun x y => ltOf spCf y x = false
theorem spInsF0_c (p : Option Addr) (cap : Nat) (fv : Value) (w : World) :
    Calls Tryz.prog 351 #[.slice p 0 cap, .int .i64 0, .int .i64 0, fv] w fun e w' => e = .returned (.tuple #[]) ∧ w' = w := by
  go_enter Tryz.func351, Tryz.ntmps351
  go_wp2
  refine wp_loop_rounds 1 ?_
  rw [rounds_succ]
  go_wp2
  go_end0
  exact ⟨rfl, rfl⟩
set_option maxHeartbeats 1600000 in
set_option maxRecDepth 100000 in
theorem spFncF0_c (p : Option Addr) (cap : Nat) (fv : Value) (w : World) :
    Calls Tryz.prog 202 #[.slice p 0 cap, fv] w fun e w' => e = .returned (.tuple #[]) ∧ w' = w := by
  have hS : ∀ lim : Int, Calls Tryz.prog 274 #[.slice p 0 cap, .int .i64 0, .int .i64 0, .int .i64 lim, fv] w fun e w' => e = .returned (.tuple #[]) ∧ w' = w := by
    intro lim
    have hI := Lib.hid (spInsF0_c p cap fv w)
    go_enter Tryz.func274, Tryz.ntmps274
    go_wp2
    refine wp_loop_rounds 1 ?_
    rw [rounds_succ]
    go_wp2_with fail
    refine hI.out.mono ?_; rintro e w' ⟨rfl, rfl⟩
    go_wp2
    (try simp only [Exit.inBlock, Exit.then]); refine bodyPost_ret (results_none rfl _ _ _) rfl ?_
    exact ⟨rfl, rfl⟩
  have hBi := Lib.hid (fun W => Tryz.bits_Len 0 W (by omega) (by omega))
  go_enter Tryz.func202, Tryz.ntmps202
  go_wp2_with fail
  refine (hBi.out _).mono ?_; rintro e w' ⟨rfl, rfl⟩
  go_wp2_with fail
  refine (hS _).mono ?_; rintro e w' ⟨rfl, rfl⟩
  go_wp2
  go_end0
  exact ⟨rfl, rfl⟩
theorem sortFSp_c (F : Nat) (eg : ∀ args w, (callFunc F args).run Tryz.prog w = .ok (.enter F args) w) (hF : ∀ (x y : Sp) (W : World), Calls Tryz.prog F #[.agg (spE x).toArray, .agg (spE y).toArray] W fun e w' => e = .returned (.int .i64 (spCf x y)) ∧ Below W.heap.size W w' ∧ W.drawn ≤ w'.drawn) (l : List Sp) (w : World) (base n : Nat) (u : Value) (hown : w.ownsRow base 153 3 u n (l.flatMap spE)) (hn : n ≤ 1000) :
    Calls Tryz.prog 202 #[u, .func (.func F) #[] #[]] w fun e w' => e = .returned (.tuple #[]) ∧ ∃ l', w'.ownsRow base 153 3 u n (l'.flatMap spE) ∧ SpSortF l l' ∧ w.grownBy w' u.ownBlock := by
  obtain ⟨A, c, rfl⟩ := own_shape hown
  have hlen := own_len spE_len (by decide) hown
  rcases Nat.eq_zero_or_pos n with h0 | hp
  · subst h0
    have hl : l = [] := List.eq_nil_of_length_eq_zero hlen
    subst hl
    refine (spFncF0_c A c _ w).mono ?_
    rintro e w' ⟨rfl, rfl⟩
    exact ⟨rfl, [], hown, ⟨List.Perm.refl _, List.Pairwise.nil⟩, grown_refl _ _⟩
  · obtain ⟨gb, rfl, hgb⟩ := own_someN hown hp
    have hH := holdsK_own spE 3 spE_len (by omega) hown
    have hsz : l.toArray.size = n := by simpa using hlen
    have hC : CmpLays Tryz.prog F #[] spE 3 spCf gb 0 l.toArray.size w := fun m os dk hdk x y => (hF x y _).mono fun _ _ ⟨he, hB, hD⟩ => ⟨he, grow_of hB hD⟩
    have h := AnyQ.slices_SortFunc Tryz.laysQT 3 Tryz.isAgg153 Tryz.sizeOf153 spE spE_len (fun x v hv => by simp [spE] at hv; rcases hv with rfl | rfl | rfl <;> rfl) spCf spFWO F #[] gb 0 c l.toArray w eg hC hH (hown.lt gb rfl).2 (by rw [hsz]; omega)
    rw [hsz] at h
    refine h.mono ?_
    rintro e w' ⟨rfl, d', m, os, hP, hS, rfl⟩
    obtain ⟨p1, p2, p3⟩ := hP
    have hz : d'.toList.length = n := by rw [Array.length_toList, p1, hsz]
    obtain ⟨h1, h2⟩ := own_sortedK spE 3 spE_len (by omega) hown (l' := d'.toList) hz m os
    rw [Array.toArray_toList] at h1 h2
    refine ⟨rfl, d'.toList, h1, ⟨?_, ?_⟩, h2⟩
    · have e1 : d'.extract 0 n = d' := by rw [← hsz, ← p1]; exact Array.extract_size
      have e2 : l.toArray.extract 0 n = l.toArray := by rw [← hsz]; exact Array.extract_size
      rw [e1, e2] at p3
      exact p3
    · rw [List.pairwise_iff_getElem]
      intro i j hi hj hij
      have hj' : j < d'.size := by simpa using hj
      have h9 := hS i j (Nat.zero_le _) hij (by rw [p1, hsz] at hj'; exact hj')
      rw [getElem!_pos d' i (by omega), getElem!_pos d' j hj'] at h9
      exact h9
end Go.Proofs.YtklggnglaeagpaaGreatDoor
