/- timing.Legs and the reference's LegsOf. -/
import Derived.Test.YtjfppcejcbfngaaDoorLaps
import Derived.Test.YtjfppcejcbfngaaDoorPaces
import Derived.Deep.RegionHeld3
import Derived.Deep.AppendLies
namespace Go.Proofs.YtjfppcejcbfngaaDoor
open Go.RowKit
set_option linter.unusedVariables false

def legsF (l : List Int) (e : Nat) : Nat → Nat → Int → Option (List Int)
  | 0, _, _ => some []
  | m + 1, k, last => if l.getD k 0 = 0 then none else (legsF l e m (k + e) (l.getD k 0)).map (fun r => (l.getD k 0 - last) :: r)
def legsR (r : Race) (l : List Int) : Option (List Int) := legsF l (r.metres / r.course).toNat r.legs.toNat ((r.metres / r.course).toNat - 1) 0
def legL (o : Option (List Int)) : List Int := o.getD []
def legE (o : Option (List Int)) : Int := if o = none then 8 else 0
theorem R1.cell {α : Type} {enc : α → Value} {e : TypeId} {w : World} {b off n : Nat} {l : List α} {k : Nat} {x : α} (h : R1 enc e w (some ⟨b, off, none⟩) n l) (hx : l[k]? = some x) : w.cell? ⟨b, off + k, none⟩ = some (enc x) := by
  have hk : k < n := by rw [← h.len]; exact (List.getElem?_eq_some_iff.mp hx).1
  obtain ⟨b', off', x', e, _, hx', hc⟩ := h.at_ hk
  injection e with e; injection e with e1 e2
  subst e1 e2
  rw [hx] at hx'
  obtain rfl := Option.some.inj hx'
  exact hc
theorem legsF_zero {l : List Int} {e m k : Nat} {last x : Int} (h : l[k]? = some x) (hx : x = 0) : legsF l e (m + 1) k last = none := by
  rw [legsF, getD_of h, if_pos hx]
theorem legsF_step {l : List Int} {e m k : Nat} {last x : Int} (h : l[k]? = some x) (hx : x ≠ 0) : legsF l e (m + 1) k last = (legsF l e m (k + e) x).map (fun r => (x - last) :: r) := by
  rw [legsF, getD_of h, if_neg hx]
theorem map_app (o : Option (List Int)) (acc : List Int) (x : Int) : (o.map (fun r => x :: r)).map (fun r => acc ++ r) = o.map (fun r => (acc ++ [x]) ++ r) := by
  cases o with
  | none => rfl
  | some r => simp
theorem len_eq {r : Race} {l : List Int} (h : checkSp r l = 0) : ∃ e g : Nat, r.metres / r.course = (e : Int) ∧ r.legs = (g : Int) ∧ 1 ≤ e ∧ e ≤ 60 ∧ 1 ≤ g ∧ g ≤ 4 ∧ l.length = e * g ∧ legsR r l = legsF l e g (e - 1) 0 := by
  obtain ⟨h0, h1⟩ := checkSp_ok h
  obtain ⟨h2, _, _⟩ := splitsErr_ok h1
  obtain ⟨_, _, _, _, _, hc, hl1, hl2, h3, h4, _, _, _, h5⟩ := raceErr_ok h0
  have hm : 1 ≤ r.metres / r.course ∧ r.metres / r.course ≤ 60 := by rcases hc with hc | hc <;> rw [hc] at h5 ⊢ <;> omega
  refine ⟨(r.metres / r.course).toNat, r.legs.toNat, by omega, by omega, by omega, by omega, by omega, by omega, ?_, rfl⟩
  unfold lenV at h2
  have e1 : r.metres / r.course = ((r.metres / r.course).toNat : Int) := by omega
  have e2 : r.legs = (r.legs.toNat : Int) := by omega
  rw [e1, e2] at h2
  exact_mod_cast h2
theorem leg_at {e g j : Nat} (he : 1 ≤ e) (hj : j < g) : e - 1 + e * j < e * g := by
  have : e * (j + 1) ≤ e * g := Nat.mul_le_mul_left e hj
  rw [Nat.mul_add] at this
  omega
theorem leg_end {e g : Nat} (he : 1 ≤ e) : ¬ e - 1 + e * g < e * g := by omega

theorem retLE_leg {B w' : World} {A : Option Addr} {n c : Nat} {L : List Int} {o : Option (List Int)} (hr : RI 3 w' A n L) (hb : Below B.heap.size B w') (h : o = some L) : RetLE B (legL o) (legE o) (.returned (.tuple #[.slice A n c, .int .i64 0])) w' := by
  subst h; exact ⟨A, n, c, rfl, hr, hb⟩
theorem retLE_noleg {B w' : World} {o : Option (List Int)} (hb : Below B.heap.size B w') (h : o = none) : RetLE B (legL o) (legE o) (.returned (.tuple #[.slice none 0 0, .int .i64 8])) w' := by
  subst h; exact ⟨none, 0, 0, rfl, R1.nil_ _ _ _ _, hb⟩

set_option maxHeartbeats 1600000 in
set_option maxRecDepth 100000 in
theorem legsOf_c (r : Race) (A : Option Addr) (n c : Nat) (l : List Int) (w : World) (h : RI 3 w A n l) (h0 : checkSp r l = 0) :
    Calls Tryd.prog 67 #[r.val, .slice A n c] w (RetLE w (legL (legsR r l)) (legE (legsR r l))) := by
  obtain ⟨hn1, hn, hbd⟩ := splits_bd h0
  obtain ⟨hre, _⟩ := checkSp_ok h0
  obtain ⟨_, _, _, _, _, hco, _, _, hm1, hm2, _⟩ := raceErr_ok hre
  obtain ⟨e, g, he, hg, he1, he2, hg1, hg2, hlen, hR⟩ := len_eq h0
  rw [h.len] at hn hn1 hlen
  generalize legsR r l = R at *
  have hR' := Lib.hid hR
  have hlen' := Lib.hid hlen
  obtain ⟨key, metres, stroke, course, legs, sex, young, old⟩ := r
  dsimp only [Race.val, Race.cells] at *
  have hc0 : course ≠ 0 := by omega
  clear hR hlen h0 hre hg
  go_enter Tryd.func67, Tryd.ntmps67
  go_wp2_with fail
  rw [he]
  clear he
  go_loopw [6, 8, 9] (fun out la i wr => ∃ (j q : Nat) (last : Int) (acc : List Int), j ≤ g ∧ Hid (q + 1 = e + e * j) ∧ i = .int .i64 q ∧ la = .int .i64 last ∧ 0 ≤ last ∧ last ≤ 360000 ∧ q ≤ 300 ∧ wr.ownsRow w.heap.size 3 1 out j (ints acc) ∧ Below w.heap.size w wr ∧ Hid ((legsF l e (g - j) q last).map (fun r => acc ++ r) = R)) (fun _ _ i _ => 1000 - (intOf i).toNat)
  case atStart => exact ⟨0, e - 1, 0, [], Nat.zero_le _, Lib.hid (by omega), by first | rfl | (congr 1; omega), rfl, by omega, by omega, by omega, World.ownsRow_nil _ _ _ _, by first | exact Below.refl _ _ | exact below_new _ _, Lib.hid (by rw [hR'.out]; simp)⟩
  case round =>
    obtain ⟨j, q, last, acc, hj, hq, rfl, rfl, hla0, hla1, hq3, hown, hB, hK⟩ := hrel
    by_cases hlt : q < n
    · have hr := h.below hB
      obtain ⟨b, off, x, rfl, _, hx, hcell⟩ := hr.at_ hlt
      have hxb := hbd x (mem_of_at hx)
      have hz := hB.size
      have hjg : j < g := by
        have h1 := hq.out; have h2 := hlen'.out
        rcases Nat.lt_or_ge j g with h3 | h3
        · exact h3
        · have : e * g ≤ e * j := Nat.mul_le_mul_left e h3
          omega
      have hS0 := Lib.hid (fun hx0 => legsF_zero (l := l) (e := e) (m := g - j - 1) (last := last) hx hx0)
      have hS1 := Lib.hid (fun hx0 => legsF_step (l := l) (e := e) (m := g - j - 1) (last := last) hx hx0)
      have eg : g - j = (g - j - 1) + 1 := by omega
      rw [eg] at hK
      have hX := Lib.hid hx
      clear hr hx hbd eg
      by_cases hx0 : x = 0
      · have hN := Lib.hid (by have := hK.out; rw [hS0.out hx0] at this; exact this.symm)
        have hxt : (x == 0) = true := by simpa using hx0
        clear hS0 hS1 hK hx0
        go_wp2
        go_ret2
        exact retLE_noleg hB hN.out
      · have hN := Lib.hid (by have := hK.out; rw [hS1.out hx0, map_app] at this; exact this)
        have hxt : (x == 0) = false := by simpa using hx0
        clear hS0 hS1 hK hx0
        go_wp2_with (at_builtin; refine wpList_app rfl (.tmp 29) (.tmp 36) 22 rfl Tryd.underlying22 info_int rfl (by omega) (by omega) hown rfl rfl rfl rfl (by simp [Value.oneCell']) (by omega) hz ?_; intro v4 w4 hown4 hg4; have hB4 := below_own hB hown hg4 hz (Nat.le_refl _); have hc4 := (h.below hB4).cell hX.out)
        go_roundw
        case rel =>
          refine ⟨j + 1, q + e, x, acc ++ [x - last], by omega, Lib.hid ?_, by go_num, rfl, by omega, by omega, by omega, ?_, hB4, Lib.hid ?_⟩
          · have := hq.out; rw [Nat.mul_add]; omega
          · rw [ints_app]; exact hown4
          · have := hN.out; rw [show g - (j + 1) = g - j - 1 from by omega]; exact this
        case measure => simp [intOf]; omega
    · have hjg : j = g := by
        have h1 := hq.out; have h2 := hlen'.out
        rcases Nat.lt_or_ge j g with h3 | h3
        · have := leg_at he1 h3
          omega
        · omega
      subst hjg
      have hL := Lib.hid (by have := hK.out; rw [Nat.sub_self] at this; simpa [legsF] using this.symm)
      obtain ⟨A', c', rfl⟩ := own_shape hown
      have hr := R1.of_own hown (by omega)
      clear h hK hown
      go_wp2
      go_ret2
      exact retLE_leg hr hB hL.out
end Go.Proofs.YtjfppcejcbfngaaDoor
