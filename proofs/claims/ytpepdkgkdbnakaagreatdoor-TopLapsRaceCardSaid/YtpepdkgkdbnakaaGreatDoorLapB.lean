import Derived.Test.YtpepdkgkdbnakaaGreatDoorTwo
import Derived.Test.YtpepdkgkdbnakaaGreatDoorSortB
import Derived.Test.YtpepdkgkdbnakaaGreatDoorSplits
import Derived.Test.YtpepdkgkdbnakaaGreatDoorReady4
import Derived.Test.YtpepdkgkdbnakaaGreatDoorFill
import Derived.Test.YtpepdkgkdbnakaaGreatDoorPadF
/- pad.sorted, pad.ends, tumbref1.endsOf, tumbref1.counting. -/
namespace Go.Proofs.YtpepdkgkdbnakaaGreatDoor
open Go.RowKit Go.Lib
set_option linter.unusedVariables false

/-- two rows of ints of the call's own -/
structure D2 (w : World) (u1 u2 : Value) (l1 l2 : List Int) (wx : World) : Prop where
  o1 : wx.ownsRow w.heap.size 3 1 u1 l1.length (ints l1)
  o2 : wx.ownsRow w.heap.size 3 1 u2 l2.length (ints l2)
  dis : Dis u1 u2
  bel : Below w.heap.size w wx
section
variable {w wx w' : World} {u1 u2 v' : Value} {l1 l2 : List Int} {x : Int}
theorem D2.below (h : D2 w u1 u2 l1 l2 wx) (hb : Below wx.heap.size wx w') : D2 w u1 u2 l1 l2 w' := ⟨own_below h.o1 hb, own_below h.o2 hb, h.dis, below_next h.bel hb⟩
theorem D2.start (w : World) : D2 w (.slice none 0 0) (.slice none 0 0) [] [] w := ⟨World.ownsRow_nil _ _ _ _, World.ownsRow_nil _ _ _ _, (fun i h _ => by cases h), Below.refl _ _⟩
theorem D2.app1 (h : D2 w u1 u2 l1 l2 wx) (ho : w'.ownsRow w.heap.size 3 1 v' (l1.length + 1) (ints l1 ++ [.int .i64 x])) (hg : wx.grownBy w' u1.ownBlock) (ha : v'.ownBlock = u1.ownBlock ∨ ∃ q, v'.ownBlock = some q ∧ wx.heap.size ≤ q) : D2 w v' u2 (l1 ++ [x]) l2 w' := by
  refine ⟨by rw [ints_app, List.length_append]; exact ho, h.o2.kept hg h.dis.ne, fun i h1 h2 => ?_, below_own h.bel h.o1 hg h.bel.size (Nat.le_refl _)⟩
  rcases ha with ha | ⟨q, ha, hq⟩
  · exact h.dis i (by rw [← ha]; exact h1) h2
  · rw [ha] at h1; injection h1 with h1; subst h1; have := (h.o2.lt _ h2).2; omega
theorem D2.app2 (h : D2 w u1 u2 l1 l2 wx) (ho : w'.ownsRow w.heap.size 3 1 v' (l2.length + 1) (ints l2 ++ [.int .i64 x])) (hg : wx.grownBy w' u2.ownBlock) (ha : v'.ownBlock = u2.ownBlock ∨ ∃ q, v'.ownBlock = some q ∧ wx.heap.size ≤ q) : D2 w u1 v' l1 (l2 ++ [x]) w' := by
  refine ⟨h.o1.kept hg h.dis.symm.ne, by rw [ints_app, List.length_append]; exact ho, fun i h1 h2 => ?_, below_own h.bel h.o2 hg h.bel.size (Nat.le_refl _)⟩
  rcases ha with ha | ⟨q, ha, hq⟩
  · exact h.dis i h1 (by rw [← ha]; exact h2)
  · rw [ha] at h2; injection h2 with h2; subst h2; have := (h.o1.lt _ h1).2; omega
end
/-- touches parted: those that count, and the rest -/
def cntGo (e0 : Int) (M : Nat) : List Int → List Int → List Int → List Int × List Int
  | g, h, [] => (g, h)
  | g, h, t :: r => if t < (if g.length = 0 then e0 * 1000 else g.getD (g.length - 1) 0 + 2000) ∨ g.length = M then cntGo e0 M g (h ++ [t]) r else cntGo e0 M (g ++ [t]) h r
theorem cntGo_at {e0 : Int} {M : Nat} {l : List Int} {k : Nat} {t : Int} (g h : List Int) (hx : l[k]? = some t) : cntGo e0 M g h (l.drop k) = if t < (if g.length = 0 then e0 * 1000 else g.getD (g.length - 1) 0 + 2000) ∨ g.length = M then cntGo e0 M g (h ++ [t]) (l.drop (k + 1)) else cntGo e0 M (g ++ [t]) h (l.drop (k + 1)) := by rw [drop_at hx]; rfl
/-- the first end of N lengths; how many there are -/
def e0N (N : Nat) : Int := 2 - ((N % 2 : Nat) : Int)
def mN (N : Nat) : Nat := (N + 1) / 2
def endsV (N : Nat) : List Int := (List.range (mN N)).map fun i : Nat => e0N N + 2 * (i : Int)
def goodV (N : Nat) (l : List Int) : List Int := (cntGo (e0N N) (mN N) [] [] l).1
def ghostV (N : Nat) (l : List Int) : List Int := (cntGo (e0N N) (mN N) [] [] l).2
def RetTwo (w : World) (L : List Int × List Int) (e : Ending) (w' : World) : Prop := ∃ A1 c1 A2 c2, e = .returned (.tuple #[.slice A1 L.1.length c1, .slice A2 L.2.length c2]) ∧ RI 3 w' A1 L.1.length L.1 ∧ RI 3 w' A2 L.2.length L.2 ∧ Below w.heap.size w w'
theorem last_snoc (g : List Int) (t : Int) : (g ++ [t]).getD ((g ++ [t]).length - 1) 0 = t := by
  rw [List.length_append]; simp
set_option maxHeartbeats 6400000 in
set_option maxRecDepth 100000 in
theorem sorted_c (N : Nat) (A : Option Addr) (n c : Nat) (l : List Int) (w : World) (h : RI 3 w A n l) (hN1 : 1 ≤ N) (hN : N ≤ 16) (hn : n ≤ 100) (hb : ∀ x ∈ l, 0 ≤ x ∧ x ≤ 1000000000) :
    Calls Tryz.prog 248 #[.int .i64 N, .slice A n c] w (RetTwo w (cntGo (e0N N) (mN N) [] [] l)) := by
  have hR := Lib.hid (fun W B => h.below (w' := W) B)
  have hl := Lib.hid h.len
  have hGa := Lib.hid (fun g hh k x (h : l[k]? = some x) => cntGo_at (e0 := e0N N) (M := mN N) g hh h)
  have hG0 := Lib.hid (fun g hh => show cntGo (e0N N) (mN N) g hh [] = (g, hh) from rfl)
  have hb' := Lib.hid (fun k x (h : l[k]? = some x) => hb x (List.mem_of_getElem? h))
  have q1 : (N : Int).tmod 2 = ((N % 2 : Nat) : Int) := by rw [Int.tmod_eq_emod_of_nonneg (by omega)]; rfl
  have q2 : ((N : Int) + 1).tdiv 2 = ((mN N : Nat) : Int) := by unfold mN; rw [Int.tdiv_eq_ediv_of_nonneg (by omega)]; rfl
  have q3 : (2 : Int) - ((N % 2 : Nat) : Int) = e0N N := rfl
  have q4 : 1 ≤ e0N N ∧ e0N N ≤ 2 := by unfold e0N; omega
  have q5 : 1 ≤ mN N ∧ mN N ≤ 8 := by unfold mN; omega
  have q6 : 0 ≤ N % 2 ∧ N % 2 ≤ 1 := by omega
  have hD0 := D2.start w
  generalize cntGo (e0N N) (mN N) = CG at *
  generalize mN N = M at *
  generalize e0N N = e0 at *
  generalize N % 2 = nm at *
  clear h hb
  go_enter Tryz.func248, Tryz.ntmps248
  go_wp2_with fail
  go_loopw [4, 5, 8, 19] (fun u1 u2 lv i wr => ∃ (k : Nat) (g hh : List Int) (la : Int), k ≤ n ∧ i = .int .i64 k ∧ lv = .int .i64 la ∧ D2 w u1 u2 g hh wr ∧ (-1 ≤ la ∧ la ≤ 1000000000) ∧ g.length ≤ M ∧ hh.length ≤ k ∧ (g.length ≠ M → 0 < g.length → la = g.getD (g.length - 1) 0) ∧ Hid (CG g hh (l.drop k) = CG [] [] l)) (fun _ _ _ i _ => n - (intOf i).toNat)
  case atStart => exact ⟨0, [], [], -1, Nat.zero_le _, rfl, rfl, hD0, by omega, Nat.zero_le _, Nat.le_refl _, (fun _ h => absurd h (by simp)), Lib.hid rfl⟩
  case round =>
    clear hD0
    obtain ⟨k, g, hh, la, hk, rfl, rfl, hD, hlb, hgM, hhk, hla, hF⟩ := hrel
    obtain ⟨A1, c1, rfl⟩ := own_shape hD.o1
    obtain ⟨A2, c2, rfl⟩ := own_shape hD.o2
    by_cases hlt : k < n
    · obtain ⟨b, off, x, rfl, hbl, hx, hc⟩ := (hR.out _ hD.bel).at_ hlt
      have hxb := hb'.out k x hx
      have hS := Lib.hid ((hGa.out g hh k x hx).symm.trans hF.out)
      have hbs := hD.bel.size
      have ho1 := Lib.hid hD.o1
      have ho2 := Lib.hid hD.o2
      have hgl : (g.length : Int) ≤ 8 := by omega
      clear hx hF
      by_cases hg0 : g.length = 0
      · have hg1 : ¬ 0 < g.length := by omega
        obtain rfl : g = [] := List.eq_nil_of_length_eq_zero hg0
        have hM : Hid (([] : List Int).length ≠ M) := Lib.hid (by rw [hg0]; omega)
        have e3 : ((0 : Int) == (M : Int)) = false := by rw [beq_eq_false_iff_ne]; omega
        have e4 : ¬ (0 : Int) = (M : Int) := by omega
        rw [if_pos hg0] at hS
        clear hg0 hg1 hla
        by_cases hx1 : x < e0 * 1000
        · have hx2 : x < 1000 * e0 := by omega
          have hS2 := Lib.hid (show CG [] (hh ++ [x]) (l.drop (k + 1)) = CG [] [] l by rw [← hS.out, if_pos (.inl hx1)])
          clear hS
          go_wp2_with (at_builtin; refine wpList_appAt rfl (.tmp 46) (.tmp 48) 22 rfl Tryz.underlying22 info_int rfl (by omega) (by omega) ho2.out rfl rfl (by first | rfl | (simp; done)) (by rfl) (by simp [Value.oneCell']) (by omega) hbs ?_; intro v7 w7 hown7 hg7 hat7)
          have hD7 := hD.app2 hown7 hg7 hat7
          clear hD hown7 hg7 hat7 ho1 ho2
          go_roundw
          case rel => exact ⟨k + 1, [], hh ++ [x], la, by omega, by go_num, rfl, hD7, by omega, by simp, by rw [List.length_append]; simp only [List.length_cons, List.length_nil]; omega, (fun _ h => absurd h (by simp)), hS2⟩
          case measure => simp [intOf]; omega
        · have hx2 : ¬ x < 1000 * e0 := by omega
          have hS2 := Lib.hid (show CG ([] ++ [x]) hh (l.drop (k + 1)) = CG [] [] l by rw [← hS.out, if_neg (fun h => h.elim (fun h => hx1 h) (fun h => hM.out h))])
          clear hS
          go_wp2_with (at_builtin; refine wpList_appAt rfl (.tmp 23) (.tmp 25) 22 rfl Tryz.underlying22 info_int rfl (by omega) (by omega) ho1.out rfl rfl (by first | rfl | (simp; done)) (by rfl) (by simp [Value.oneCell']) (by omega) hbs ?_; intro v7 w7 hown7 hg7 hat7)
          have hD7 := hD.app1 hown7 hg7 hat7
          clear hD hown7 hg7 hat7 ho1 ho2
          go_roundw
          case rel => exact ⟨k + 1, [] ++ [x], hh, x, by omega, by go_num, rfl, hD7, by omega, by have := hM.out; rw [List.length_append]; simp only [List.length_cons, List.length_nil] at *; omega, by omega, (fun _ _ => (last_snoc [] x).symm), hS2⟩
          case measure => simp [intOf]; omega
      · have hg1 : 0 < g.length := by omega
        have e1 : ((g.length : Int) == 0) = false := by rw [beq_eq_false_iff_ne]; omega
        rw [if_neg hg0] at hS
        by_cases hx1 : x < la + 2000
        · have hcd : x < g.getD (g.length - 1) 0 + 2000 ∨ g.length = M := by
            by_cases hM : g.length = M
            · exact .inr hM
            · exact .inl (by rw [← hla hM hg1]; exact hx1)
          have hS2 := Lib.hid (show CG g (hh ++ [x]) (l.drop (k + 1)) = CG [] [] l by rw [← hS.out, if_pos (hcd)])
          clear hS
          go_wp2_with (at_builtin; refine wpList_appAt rfl (.tmp 46) (.tmp 48) 22 rfl Tryz.underlying22 info_int rfl (by omega) (by omega) ho2.out rfl rfl (by first | rfl | (simp; done)) (by rfl) (by simp [Value.oneCell']) (by omega) hbs ?_; intro v7 w7 hown7 hg7 hat7)
          have hD7 := hD.app2 hown7 hg7 hat7
          clear hD hown7 hg7 hat7 ho1 ho2
          go_roundw
          case rel => exact ⟨k + 1, g, hh ++ [x], la, by omega, by go_num, rfl, hD7, by omega, by omega, by rw [List.length_append]; simp only [List.length_cons, List.length_nil]; omega, hla, hS2⟩
          case measure => simp [intOf]; omega
        · by_cases hM : g.length = M
          · subst hM
            have hS2 := Lib.hid (show CG g (hh ++ [x]) (l.drop (k + 1)) = CG [] [] l by rw [← hS.out, if_pos (.inr rfl)])
            clear hS
            go_wp2_with (at_builtin; refine wpList_appAt rfl (.tmp 55) (.tmp 57) 22 rfl Tryz.underlying22 info_int rfl (by omega) (by omega) ho2.out rfl rfl (by first | rfl | (simp; done)) (by rfl) (by simp [Value.oneCell']) (by omega) hbs ?_; intro v7 w7 hown7 hg7 hat7)
            have hD7 := hD.app2 hown7 hg7 hat7
            clear hD hown7 hg7 hat7 ho1 ho2
            go_roundw
            case rel => exact ⟨k + 1, g, hh ++ [x], x, by omega, by go_num, rfl, hD7, by omega, by omega, by rw [List.length_append]; simp only [List.length_cons, List.length_nil]; omega, (fun h1 h2 => absurd rfl h1), hS2⟩
            case measure => simp [intOf]; omega
          · have e3 : ((g.length : Int) == (M : Int)) = false := by rw [beq_eq_false_iff_ne]; omega
            have hl9 := Lib.hid (hla hM hg1)
            have hM := Lib.hid hM
            clear hla
            have hS2 := Lib.hid (show CG (g ++ [x]) hh (l.drop (k + 1)) = CG [] [] l by rw [← hS.out, if_neg (fun h => h.elim (fun h => hx1 (by rw [hl9.out]; exact h)) (fun h => hM.out h))])
            clear hS
            go_wp2_with (at_builtin; refine wpList_appAt rfl (.tmp 23) (.tmp 25) 22 rfl Tryz.underlying22 info_int rfl (by omega) (by omega) ho1.out rfl rfl (by first | rfl | (simp; done)) (by rfl) (by simp [Value.oneCell']) (by omega) hbs ?_; intro v7 w7 hown7 hg7 hat7)
            have hD7 := hD.app1 hown7 hg7 hat7
            clear hD hown7 hg7 hat7 ho1 ho2
            go_roundw
            case rel => exact ⟨k + 1, g ++ [x], hh, x, by omega, by go_num, rfl, hD7, by omega, by have := hM.out; rw [List.length_append]; simp only [List.length_cons, List.length_nil] at *; omega, by omega, (fun _ _ => (last_snoc g x).symm), hS2⟩
            case measure => simp [intOf]; omega
    · obtain rfl : k = n := by omega
      have hE : Hid (CG [] [] l = (g, hh)) := Lib.hid (by rw [← hF.out, drop_end (by rw [hl.out]; exact Nat.le_refl _), hG0.out])
      have r1 : RI 3 wr A1 g.length g := R1.of_own hD.o1 (by omega)
      have r2 : RI 3 wr A2 hh.length hh := R1.of_own hD.o2 (by omega)
      have hbel := hD.bel
      clear hF hD hla
      go_wp2
      go_ret2
      unfold RetTwo
      rw [hE.out]
      exact ⟨A1, c1, A2, c2, rfl, r1, r2, hbel⟩
theorem endsV_len (N : Nat) : (endsV N).length = mN N := by unfold endsV; rw [List.length_map, List.length_range]
theorem endsV_at (N i : Nat) (h : i < mN N) : (endsV N)[i]? = some (e0N N + 2 * (i : Int)) := by
  unfold endsV; rw [List.getElem?_map, List.getElem?_range h]; rfl
end Go.Proofs.YtpepdkgkdbnakaaGreatDoor

/- pad.ends, tumbref1.endsOf; pad.Ghosts, tumbref1.GhostsOf. -/
namespace Go.Proofs.YtpepdkgkdbnakaaGreatDoor
open Go.RowKit Go.Lib
set_option linter.unusedVariables false

def endsF (N i : Nat) : List Int := (List.range i).map fun i : Nat => e0N N + 2 * (i : Int)
theorem endsF_succ (N i : Nat) : endsF N (i + 1) = endsF N i ++ [e0N N + 2 * (i : Int)] := by unfold endsF; rw [List.range_succ, List.map_append]; rfl
theorem endsF_len (N i : Nat) : (endsF N i).length = i := by unfold endsF; rw [List.length_map, List.length_range]
theorem ends_last (N : Nat) (h : 1 ≤ N) : e0N N + 2 * ((mN N : Int) - 1) = N := by unfold e0N mN; omega
set_option maxHeartbeats 3200000 in
set_option maxRecDepth 100000 in
theorem padEnds_c (N : Nat) (w : World) (hN1 : 1 ≤ N) (hN : N ≤ 16) :
    Calls Tryz.prog 249 #[.int .i64 N] w (RetI w (endsV N)) := by
  have q1 : (N : Int).tmod 2 = ((N % 2 : Nat) : Int) := by rw [Int.tmod_eq_emod_of_nonneg (by omega)]; rfl
  have q3 : (2 : Int) - ((N % 2 : Nat) : Int) = e0N N := rfl
  have q4 : 1 ≤ e0N N ∧ e0N N ≤ 2 := by unfold e0N; omega
  have q5 : 1 ≤ mN N ∧ mN N ≤ 8 := by unfold mN; omega
  have q6 : 0 ≤ N % 2 ∧ N % 2 ≤ 1 := by omega
  have q7 := Lib.hid (ends_last N hN1)
  have hV := Lib.hid (show endsF N (mN N) = endsV N from rfl)
  have hS := Lib.hid (fun i => endsF_succ N i)
  have hLn := Lib.hid (fun i => endsF_len N i)
  have h0 : Hid (endsF N 0 = []) := Lib.hid rfl
  have hI0 := IL.start w
  generalize endsV N = EV at *
  generalize endsF N = EF at *
  generalize mN N = M at *
  generalize e0N N = e0 at *
  generalize N % 2 = nm at *
  go_enter Tryz.func249, Tryz.ntmps249
  go_wp2_with fail
  go_loopw [3, 4] (fun out kv wr => ∃ i : Nat, i ≤ M ∧ kv = .int .i64 (e0 + 2 * (i : Int)) ∧ IL w out (EF i) wr) (fun _ kv _ => (100 - intOf kv).toNat)
  case atStart => exact ⟨0, Nat.zero_le _, by simp, by rw [h0.out]; exact hI0⟩
  case round =>
    clear hI0
    obtain ⟨i, hi, rfl, hI⟩ := hrel
    have hq7 := q7.out
    by_cases hlt : i < M
    · have h1 : e0 + 2 * (i : Int) ≤ (N : Int) := by omega
      have hz6 := hI.bel.size
      have hw6 := Lib.hid hI.own
      have hl6 := hLn.out i
      have hl7 : (EF i).length ≤ 1000 := by omega
      clear hl6 hq7
      go_wp2_with (at_builtin; refine wpList_app rfl (.tmp 13) (.tmp 15) 22 rfl Tryz.underlying22 info_int rfl (by omega) (by omega) hw6.out rfl rfl (by first | rfl | (simp; done)) (by rfl) (by simp [Value.oneCell']) (by omega) hz6 ?_; intro v7 w7 hown7 hg7)
      have hI7 := hI.app hown7 hg7
      rw [← hS.out i] at hI7
      clear hI hown7 hg7 hw6
      go_roundw
      case rel => exact ⟨i + 1, by omega, by congr 1; omega, hI7⟩
      case measure => simp [intOf]; omega
    · obtain rfl : i = M := by omega
      have h1 : ¬ e0 + 2 * (i : Int) ≤ (N : Int) := by omega
      obtain ⟨A', c', rfl⟩ := own_shape hI.own
      rw [hV.out] at hI
      have hown := hI.own
      have hbel := hI.bel
      clear hI hq7
      have hll : EV.length = (EF i).length := by rw [hV.out]
      go_wp2
      go_ret
      exact ⟨A', c', by rw [hll]; rfl, hown, hbel⟩
end Go.Proofs.YtpepdkgkdbnakaaGreatDoor
