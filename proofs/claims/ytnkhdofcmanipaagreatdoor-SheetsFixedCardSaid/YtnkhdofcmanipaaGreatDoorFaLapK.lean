import Derived.Test.YtnkhdofcmanipaaGreatDoorFaRegAp
import Derived.Test.YtnkhdofcmanipaaGreatDoorFaSortB
import Derived.Test.YtnkhdofcmanipaaGreatDoorFaReady4
import Derived.Test.YtnkhdofcmanipaaGreatDoorFaPadF
import Derived.Deep.RegionHeld3
import Derived.Test.YtnkhdofcmanipaaGreatDoorFaMkReg
import Derived.Laws.OwnMore
import Derived.BigRegion
import Derived.Deep.AppendLies
import Derived.Laws.EntriesVeiled
import Derived.Laws.StructEq
/- pad.sorted, pad.ends, tumbref1.endsOf, tumbref1.counting. -/
namespace Go.Proofs.YtnkhdofcmanipaaGreatDoor
open Go.RowKit Go.Lib
set_option linter.unusedVariables false

/-- two rows of ints of the call's own -/
structure D2 (w : World) (u1 u2 : Value) (l1 l2 : List Int) (wx : World) : Prop where
  o1 : wx.ownsRow w.heap.size 3 1 u1 l1.length (ints l1)
  o2 : wx.ownsRow w.heap.size 3 1 u2 l2.length (ints l2)
  dis : Dis u1 u2
  bel : Below w.heap.size w wx
section
variable {w wx w' : World} {u1 u2 v' : Value} {l1 l2 : List Int} {x : Int}
theorem D2.below (h : D2 w u1 u2 l1 l2 wx) (hb : Below wx.heap.size wx w') : D2 w u1 u2 l1 l2 w' := ⟨own_below h.o1 hb, own_below h.o2 hb, h.dis, below_next h.bel hb⟩
theorem D2.start (w : World) : D2 w (.slice none 0 0) (.slice none 0 0) [] [] w := ⟨World.ownsRow_nil _ _ _ _, World.ownsRow_nil _ _ _ _, (fun i h _ => by cases h), Below.refl _ _⟩
end
end Go.Proofs.YtnkhdofcmanipaaGreatDoor

/- pad.ends, tumbref1.endsOf; pad.Ghosts, tumbref1.GhostsOf. -/
namespace Go.Proofs.YtnkhdofcmanipaaGreatDoor
open Go.RowKit Go.Lib
set_option linter.unusedVariables false

end Go.Proofs.YtnkhdofcmanipaaGreatDoor
/- Which ends touches stand at: the least sum, found in two ways; the laps from it. PLAIN (no program). -/
namespace Go.Proofs.YtnkhdofcmanipaaGreatDoor
namespace LP
/-- the reference's state: the best choice so far and its sum -/
abbrev Best := List Int × Int
def upd (st : Best) (l : List Int) (s : Int) : Best := if st.2 < 0 ∨ s < st.2 then (l, s) else st
/-- the reference tries all choices in order -/
def tr (off : Nat → Nat → Int) (ends : List Int) (n : Int) : Nat → Nat → Nat → Nat → List Int → Int → Best → Best
  | _, 0, _, _, at_, sum, st => upd st (at_ ++ [n]) sum
  | 0, _ + 1, _, _, _, _, st => st
  | f + 1, d + 1, t, e, at_, sum, st => tr off ends n f (d + 1) t (e + 1) at_ sum (tr off ends n f d (t + 1) (e + 1) (at_ ++ [ends.getD e 0]) (sum + off t e) st)
/-- a lap -/
structure Lp where
  length : Int
  time : Int
  filled : Bool
deriving DecidableEq, Inhabited
/-- the last end ahead, and its time -/
def pv (k : Int) : Int × Int → List (Int × Int) → Int × Int
  | s, [] => s
  | s, p :: r => if p.1 < k then pv k p r else pv k s r
end LP
end Go.Proofs.YtnkhdofcmanipaaGreatDoor
/- (*pace).off, (*pace).least. -/
namespace Go.Proofs.YtnkhdofcmanipaaGreatDoor
open Go.RowKit Go.Lib
set_option linter.unusedVariables false

theorem listed_up {listed : Array Bool} {c : Nat} (i : Nat) (h : listed.getD c false = true) : (listed.setIfInBounds i true).getD c false = true := by
  by_cases hic : i = c
  · subst hic
    rw [Array.getD_eq_getD_getElem?] at h ⊢
    rw [Array.getElem?_setIfInBounds_self]
    split
    · rfl
    · rename_i hlt; rw [Array.getElem?_eq_none (by omega)] at h; cases h
  · rw [getD_set_other _ hic]; exact h
/-- a state, some calls, and one store behind them: what it wrote stands -/
def KW (KK : World → Prop) (calls : List Nat) (st : Nat) (p : Addr) (v : Value) (listed : Array Bool) (w' : World) : Prop := KK w' ∧ (listed.getD st false = true → (∀ c ∈ calls, listed.getD c false = true) ∧ w'.cell? p = some v)
theorem KW.keep {KK : World → Prop} {calls : List Nat} {st i : Nat} {p : Addr} {v : Value} {listed : Array Bool} {w' : World} (h : KW KK calls st p v listed w') (hi : i ≠ st) : KW KK calls st p v (listed.setIfInBounds i true) w' := ⟨h.1, fun e => by
  rw [getD_set_other _ hi] at e
  obtain ⟨h1, h2⟩ := h.2 e
  exact ⟨fun c hc => listed_up i (h1 c hc), h2⟩⟩
theorem KW.call {KK : World → Prop} {calls : List Nat} {st i : Nat} {p : Addr} {v : Value} {listed : Array Bool} {w' w1 : World} (h : KW KK calls st p v listed w') (h0 : listed.getD i true = false) (hc : i ∈ calls) (hi : i ≠ st) (hk : KK w1) : KW KK calls st p v (listed.setIfInBounds i true) w1 := ⟨hk, fun e => by
  rw [getD_set_other _ hi] at e
  have h9 := (h.2 e).1 i hc
  have his : i < listed.size := by
    rcases Nat.lt_or_ge i listed.size with h' | h'
    · exact h'
    · rw [Array.getD_eq_getD_getElem?, Array.getElem?_eq_none h'] at h0; cases h0
  rw [Array.getD_eq_getD_getElem?, Array.getElem?_eq_getElem his] at h0 h9
  simp only [Option.getD_some] at h0 h9
  rw [h0] at h9; cases h9⟩
theorem KW.store {KK : World → Prop} {calls : List Nat} {st : Nat} {p : Addr} {v : Value} {listed : Array Bool} {w1 : World} (hk : KK w1) (hc : ∀ c ∈ calls, listed.getD c false = true) (hv : w1.cell? p = some v) : KW KK calls st p v (listed.setIfInBounds st true) w1 := ⟨hk, fun _ => ⟨fun c h => listed_up st (hc c h), hv⟩⟩
theorem KW.start {KK : World → Prop} {calls : List Nat} {st n : Nat} {p : Addr} {v : Value} {w1 : World} (hk : KK w1) : KW KK calls st p v (Array.replicate n false) w1 := ⟨hk, fun e => by rw [rep_false] at e; cases e⟩
section
variable {w wx w' : World} {P KB : Nat} {rb : Nat → Nat} {N M m : Nat} {Ae : Option Addr} {ce : Nat} {Ag : Option Addr} {cg : Nat} {off : Nat → Nat → Int}
end
end Go.Proofs.YtnkhdofcmanipaaGreatDoor

/- (*pace).stand. -/
namespace Go.Proofs.YtnkhdofcmanipaaGreatDoor
open Go.RowKit Go.Lib
set_option linter.unusedVariables false

end Go.Proofs.YtnkhdofcmanipaaGreatDoor

/- pad.laps. -/
namespace Go.Proofs.YtnkhdofcmanipaaGreatDoor
open Go.RowKit Go.Lib
set_option linter.unusedVariables false

def lpE (x : LP.Lp) : List Value := [.int .i64 x.length, .int .i64 x.time, .bool x.filled]
theorem lpE_len : ∀ x, (lpE x).length = 3 := fun _ => rfl
abbrev RLp (w : World) (A : Option Addr) (n : Nat) (l : List LP.Lp) : Prop := RN 3 lpE 57 w A n l
/-- numbers of ends, rising, the last of them the last end -/
def UpL : Nat → Nat → List Nat → Prop
  | i, M, [] => i = M
  | i, M, k :: r => i ≤ k ∧ k < M ∧ UpL (k + 1) M r
theorem UpL.mono {M : Nat} : ∀ {l : List Nat} {i j : Nat}, l ≠ [] → UpL i M l → j ≤ i → UpL j M l
  | [], _, _, h, _, _ => absurd rfl h
  | k :: r, i, j, _, h, hj => ⟨by have := h.1; omega, h.2⟩
theorem UpL.at {M : Nat} : ∀ {l : List Nat} {i q k : Nat}, UpL i M l → l[q]? = some k → k < M ∧ i ≤ k ∧ UpL (k + 1) M (l.drop (q + 1))
  | [], _, _, _, _, h => by simp at h
  | a :: r, i, 0, k, h, hk => by
    obtain rfl : a = k := by simpa using hk
    exact ⟨h.2.1, h.1, h.2.2⟩
  | a :: r, i, q + 1, k, h, hk => by
    have := UpL.at h.2.2 (q := q) (by simpa using hk)
    exact ⟨this.1, by have := h.1; omega, this.2.2⟩
end Go.Proofs.YtnkhdofcmanipaaGreatDoor
/- tumbref1.standing: all choices are tried in order. -/
namespace Go.Proofs.YtnkhdofcmanipaaGreatDoor
open Go.RowKit Go.Lib
set_option linter.unusedVariables false

/-- two of the variables may turn, nothing else that was there -/
structure FB (p : Nat) (wx w' : World) : Prop where
  os : w'.os = wx.os
  tape : w'.tape = wx.tape
  output : w'.output = wx.output
  size : wx.heap.size ≤ w'.heap.size
  block : ∀ i, i < wx.heap.size → i ≠ p + 1 + 1 + 1 + 1 + 1 → i ≠ p + 1 + 1 + 1 + 1 + 1 + 1 → w'.heap[i]? = wx.heap[i]?
theorem FB.of_below {p : Nat} {wx w' : World} (h : Below wx.heap.size wx w') : FB p wx w' := ⟨h.os, h.tape, h.output, h.size, fun i hi _ _ => h.block i hi⟩
theorem FB.trans {p : Nat} {a b c : World} (h : FB p a b) (k : FB p b c) : FB p a c := ⟨k.os.trans h.os, k.tape.trans h.tape, k.output.trans h.output, Nat.le_trans h.size k.size, fun i hi h1 h2 => (k.block i (Nat.lt_of_lt_of_le hi h.size) h1 h2).trans (h.block i hi h1 h2)⟩
section
variable {w wx w' : World} {p N M m : Nat} {Ae : Option Addr} {ce : Nat} {Ag : Option Addr} {cg : Nat} {last : Int} {best : List Int} {least : Int}
/-- a row that the two variables leave alone -/
theorem FB.row {A : Option Addr} {n : Nat} {l : List Int} (h : RI 3 wx A n l) (hf : FB p wx w') (ha : ∀ b o s, A = some ⟨b, o, s⟩ → p + 8 ≤ b) : RI 3 w' A n l := by
  obtain ⟨h1, h2, h3⟩ := h
  refine ⟨h1, h2, fun hp => ?_⟩
  obtain ⟨b, off, cs, fr, e1, e2, e3⟩ := h3 hp
  refine ⟨b, off, cs, fr, e1, ?_, e3⟩
  have := ha b off none e1
  rw [hf.block b (lt_of_heap e2) (by omega) (by omega)]
  exact e2
end
end Go.Proofs.YtnkhdofcmanipaaGreatDoor

/- tumbref1.standing. -/
namespace Go.Proofs.YtnkhdofcmanipaaGreatDoor
open Go.RowKit Go.Lib
set_option linter.unusedVariables false

end Go.Proofs.YtnkhdofcmanipaaGreatDoor
/- tumbref1.PadLaps. -/
namespace Go.Proofs.YtnkhdofcmanipaaGreatDoor
open Go.RowKit Go.Lib
set_option linter.unusedVariables false

end Go.Proofs.YtnkhdofcmanipaaGreatDoor

/- tumbref1.PadLaps: the walk. -/
namespace Go.Proofs.YtnkhdofcmanipaaGreatDoor
open Go.RowKit Go.Lib
set_option linter.unusedVariables false

end Go.Proofs.YtnkhdofcmanipaaGreatDoor

/- pad.checkLaps, pad.Laps, pad.Ghosts, tumbref1.GhostsOf; slices.Equal of laps. -/
namespace Go.Proofs.YtnkhdofcmanipaaGreatDoor
open Go.RowKit Go.Lib Go.Sort Go.Shelf
set_option linter.unusedVariables false

end Go.Proofs.YtnkhdofcmanipaaGreatDoor

/- pad.Ghosts, tumbref1.GhostsOf; slices.Equal of laps. -/
namespace Go.Proofs.YtnkhdofcmanipaaGreatDoor
open Go.RowKit Go.Lib Go.Sort Go.Shelf
set_option linter.unusedVariables false

theorem RLp.atN {w : World} {A : Option Addr} {n : Nat} {l : List LP.Lp} (h : RLp w A n l) {k : Nat} (hk : k < n) : ∃ b off x, A = some ⟨b, off, none⟩ ∧ b < w.heap.size ∧ l[k]? = some x ∧ w.cell? ⟨b, off + k * 3, none⟩ = some (.int .i64 x.length) ∧ w.cell? ⟨b, off + k * 3 + 1, none⟩ = some (.int .i64 x.time) ∧ w.cell? ⟨b, off + k * 3 + 2, none⟩ = some (.bool x.filled) := by
  obtain ⟨b, off, x, hA, hb, hx, hc⟩ := h.at_ hk
  exact ⟨b, off, x, hA, hb, hx, hc 0 _ rfl, hc 1 _ rfl, hc 2 _ rfl⟩
set_option maxHeartbeats 1600000 in
set_option maxRecDepth 100000 in
theorem equalLp_c (A1 A2 : Option Addr) (n c m d : Nat) (l1 l2 : List LP.Lp) (w : World) (h1 : RLp w A1 n l1) (h2 : RLp w A2 m l2) :
    Calls Tryz.prog 71 #[.slice A1 n c, .slice A2 m d] w fun e w' => e = .returned (.bool (decide (l1 = l2))) ∧ ∃ q, w' = w.drewN q := by
  have b1 := h1.bd
  have b2 := h2.bd
  by_cases hnm : n = m
  rotate_left
  · have hd : decide (l1 = l2) = false := by simp; rintro rfl; have := h1.len; have := h2.len; omega
    have hne : ((n : Int) != (m : Int)) = true := by rw [bne_iff_ne]; omega
    rw [hd]
    clear hd
    go_enter Tryz.func71, Tryz.ntmps71
    go_wp2
    go_ret
    exact ⟨rfl, 0, rfl⟩
  subst hnm
  have hL1 := Lib.hid h1.len
  have hL2 := Lib.hid h2.len
  go_enter Tryz.func71, Tryz.ntmps71
  go_wp2
  go_loopw [13] (fun i wr => ∃ k q : Nat, k ≤ n ∧ i = .int .i64 k ∧ wr = w.drewN q ∧ Hid (∀ j, j < k → l1[j]? = l2[j]?)) (fun i _ => n - (intOf i).toNat)
  case atStart => exact ⟨0, 0, Nat.zero_le _, rfl, rfl, Lib.hid (fun j h => absurd h (by omega))⟩
  case round =>
    obtain ⟨k, q0, hk, rfl, rfl, hF⟩ := hrel
    by_cases hlt : k < n
    · obtain ⟨b, off, x, rfl, hbl, hx, c0, c1, c2⟩ := RLp.atN h1 hlt
      obtain ⟨b', off', y, rfl, hbl', hy, e0, e1, e2⟩ := RLp.atN h2 hlt
      have hx' := Lib.hid hx
      have hy' := Lib.hid hy
      clear hx hy
      by_cases hxy : x = y
      · subst hxy
        obtain ⟨x0, x1, x2⟩ := x
        dsimp only at c0 c1 c2 e0 e1 e2
        cases x2
        all_goals
          go_wp2
          go_quiet (fail)
          go_wp2
          go_roundw
          case rel => exact ⟨k + 1, _, by omega, by go_num, rfl, Lib.hid (fun j hj => by
            by_cases hjk : j = k
            · subst hjk; rw [hx'.out, hy'.out]
            · exact hF.out j (by omega))⟩
          case measure => simp [intOf]; omega
      · obtain ⟨x0, x1, x2⟩ := x
        obtain ⟨y0, y1, y2⟩ := y
        dsimp only at c0 c1 c2 e0 e1 e2
        have hcases : (x0 == y0) = false ∨ (x0 = y0 ∧ ((x1 == y1) = false)) ∨ (x0 = y0 ∧ x1 = y1 ∧ x2 ≠ y2) := by
          by_cases q0 : x0 = y0
          · by_cases q1 : x1 = y1
            · exact .inr (.inr ⟨q0, q1, fun q2 => hxy (by rw [q0, q1, q2])⟩)
            · exact .inr (.inl ⟨q0, beq_eq_false_iff_ne.2 q1⟩)
          · exact .inl (beq_eq_false_iff_ne.2 q0)
        have hfin : Hid (decide (l1 = l2) = false) := Lib.hid (by
          simp only [decide_eq_false_iff_not]
          rintro rfl
          rw [hx'.out] at hy'
          exact hxy (Option.some.inj hy'.out))
        clear hxy
        rcases hcases with h0 | ⟨rfl, h1⟩ | ⟨rfl, rfl, h1⟩
        · cases x2 <;> cases y2
          all_goals
            go_wp2
            go_quiet (fail)
            go_wp2
            go_ret
            exact ⟨ret_b (by rw [hfin.out]), _, by rw [World.drewN_drewN]⟩
        · cases x2 <;> cases y2
          all_goals
            go_wp2
            go_quiet (fail)
            go_wp2
            go_ret
            exact ⟨ret_b (by rw [hfin.out]), _, by rw [World.drewN_drewN]⟩
        · cases x2 <;> cases y2
          · exact absurd rfl h1
          · go_wp2
            go_quiet (fail)
            go_wp2
            go_ret
            exact ⟨ret_b (by rw [hfin.out]), _, by rw [World.drewN_drewN]⟩
          · go_wp2
            go_quiet (fail)
            go_wp2
            go_ret
            exact ⟨ret_b (by rw [hfin.out]), _, by rw [World.drewN_drewN]⟩
          · exact absurd rfl h1
    · have hfin : Hid (decide (l1 = l2) = true) := Lib.hid (by
        simp only [decide_eq_true_eq]
        apply List.ext_getElem?; intro j
        by_cases hj : j < n
        · exact hF.out j (by omega)
        · rw [List.getElem?_eq_none (by rw [hL1.out]; omega), List.getElem?_eq_none (by rw [hL2.out]; omega)])
      go_wp2
      go_ret
      exact ⟨ret_b (by rw [hfin.out]), _, rfl⟩
end Go.Proofs.YtnkhdofcmanipaaGreatDoor
