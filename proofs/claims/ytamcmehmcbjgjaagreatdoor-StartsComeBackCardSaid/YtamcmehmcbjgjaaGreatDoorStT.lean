import Derived.Test.YtamcmehmcbjgjaaGreatDoorStartC
import Derived.Test.YtamcmehmcbjgjaaGreatDoorSortH
import Derived.Test.YtamcmehmcbjgjaaGreatDoorOrdC
import Derived.Shelf.SlSortCmp.WholeK
/- heat.sortStarts: slices.SortFunc of starts, any number: a permutation, ascending. -/
namespace Go.Proofs.YtamcmehmcbjgjaaGreatDoor
open Go.RowKit Go.Shelf Go.Lib Go.Sort
set_option linter.unusedVariables false

theorem spLt_iff (x y : Sp) : ltOf spCf x y = true ↔ x.heat < y.heat ∨ (x.heat = y.heat ∧ x.lane < y.lane) := by
  have e : ltOf spCf x y = decide (spCf x y < 0) := rfl
  rw [e, decide_eq_true_iff, spCf_val]
  have h1 := @cmpI_neg x.heat y.heat
  have h2 := @cmpI_zero x.heat y.heat
  have h3 := @cmpI_neg x.lane y.lane
  have h4 := cmp3' x.heat y.heat
  have h5 := cmp3' x.lane y.lane
  split <;> omega
theorem spLt_no (x y : Sp) : ltOf spCf x y = false ↔ ¬ (x.heat < y.heat ∨ (x.heat = y.heat ∧ x.lane < y.lane)) := by
  rw [← spLt_iff, Bool.not_eq_true]
theorem spSWO : SWO (ltOf spCf) := by
  refine ⟨fun x => ?_, fun x y z => ?_, fun x y z => ?_⟩
  · rw [spLt_no]; omega
  · rw [spLt_iff, spLt_iff, spLt_iff]; omega
  · rw [spLt_no, spLt_no, spLt_no]; omega
/-- sorted as starts are -/
def SpSorted (l l' : List Sp) : Prop := l'.Perm l ∧ l'.Pairwise fun x y => ltOf spCf y x = false
theorem stIns0_c (p : Option Addr) (cap : Nat) (fv : Value) (w : World) :
    Calls Tryz.prog 255 #[.slice p 0 cap, .int .i64 0, .int .i64 0, fv] w fun e w' => e = .returned (.tuple #[]) ∧ w' = w := by
  go_enter Tryz.func255, Tryz.ntmps255
  go_wp2
  refine wp_loop_rounds 1 ?_
  rw [rounds_succ]
  go_wp2
  go_end0
  exact ⟨rfl, rfl⟩
set_option maxHeartbeats 1600000 in
set_option maxRecDepth 100000 in
theorem stFunc0_c (p : Option Addr) (cap : Nat) (fv : Value) (w : World) :
    Calls Tryz.prog 190 #[.slice p 0 cap, fv] w fun e w' => e = .returned (.tuple #[]) ∧ w' = w := by
  have hS : ∀ lim : Int, Calls Tryz.prog 224 #[.slice p 0 cap, .int .i64 0, .int .i64 0, .int .i64 lim, fv] w fun e w' => e = .returned (.tuple #[]) ∧ w' = w := by
    intro lim
    have hI := Lib.hid (stIns0_c p cap fv w)
    go_enter Tryz.func224, Tryz.ntmps224
    go_wp2
    refine wp_loop_rounds 1 ?_
    rw [rounds_succ]
    go_wp2_with fail
    refine hI.out.mono ?_; rintro e w' ⟨rfl, rfl⟩
    go_wp2
    (try simp only [Exit.inBlock, Exit.then]); refine bodyPost_ret (results_none rfl _ _ _) rfl ?_
    exact ⟨rfl, rfl⟩
  have hBi := Lib.hid (fun W => Tryz.bits_Len 0 W (by omega) (by omega))
  go_enter Tryz.func190, Tryz.ntmps190
  go_wp2_with fail
  refine (hBi.out _).mono ?_; rintro e w' ⟨rfl, rfl⟩
  go_wp2_with fail
  refine (hS _).mono ?_; rintro e w' ⟨rfl, rfl⟩
  go_wp2
  go_end0
  exact ⟨rfl, rfl⟩
end Go.Proofs.YtamcmehmcbjgjaaGreatDoor

/- heat.starts and heat.FinalStarts: who swims where. -/
namespace Go.Proofs.YtamcmehmcbjgjaaGreatDoor
open Go.RowKit
set_option linter.unusedVariables false

/-- a slice of names that lies in a row -/
structure Hn where
  A : Option Addr
  n : Nat
  c : Nat
  l : List ByteArray
def hnE (x : Hn) : List Value := [.slice x.A x.n x.c]
theorem hnE_len : ∀ x, (hnE x).length = 1 := fun _ => rfl
def RHn (w : World) (A : Option Addr) (n : Nat) (H : List Hn) : Prop := RN 1 hnE 84 w A n H ∧ ∀ x ∈ H, RS 9 w x.A x.n x.l
theorem RHn.below {w w' : World} {A : Option Addr} {n : Nat} {H : List Hn} (h : RHn w A n H) (B : Below w.heap.size w w') : RHn w' A n H := ⟨h.1.below B, fun x hx => (h.2 x hx).below B⟩
theorem RHn_at {w : World} {A : Option Addr} {n : Nat} {H : List Hn} (h : RHn w A n H) {k : Nat} (hk : k < n) : ∃ b off x, A = some ⟨b, off, none⟩ ∧ H[k]? = some x ∧ w.cell? ⟨b, off + k * 1, none⟩ = some (.slice x.A x.n x.c) ∧ RS 9 w x.A x.n x.l := by
  obtain ⟨b, off, x, hA, hb, hx, hc⟩ := h.1.at_ hk
  exact ⟨b, off, x, hA, hx, hc 0 _ rfl, h.2 x (List.mem_of_getElem? hx)⟩
def stIn (LV : List Int) (h : Int) : Nat → List ByteArray → List Sp
  | _, [] => []
  | j, s :: r => ⟨s, h, LV.getD j 0⟩ :: stIn LV h (j + 1) r
def stOut (LV : List Int) : Nat → List (List ByteArray) → List Sp
  | _, [] => []
  | i, l :: r => stIn LV ((i : Int) + 1) 0 l ++ stOut LV (i + 1) r
theorem stIn_at {LV : List Int} {h : Int} {l : List ByteArray} {k : Nat} {s : ByteArray} (hx : l[k]? = some s) : stIn LV h k (l.drop k) = ⟨s, h, LV.getD k 0⟩ :: stIn LV h (k + 1) (l.drop (k + 1)) := by rw [drop_at hx]; rfl
theorem stOut_at {LV : List Int} {H : List Hn} {k : Nat} {x : Hn} (hx : H[k]? = some x) : stOut LV k ((H.drop k).map Hn.l) = stIn LV ((k : Int) + 1) 0 x.l ++ stOut LV (k + 1) ((H.drop (k + 1)).map Hn.l) := by rw [drop_at hx]; rfl
theorem flat_snocS (l : List Sp) (x : Sp) : (l ++ [x]).flatMap spE = l.flatMap spE ++ spE x := by rw [List.flatMap_append]; simp
structure SO (w : World) (u : Value) (acc : List Sp) (wx : World) : Prop where
  own : wx.ownsRow w.heap.size 77 3 u acc.length (acc.flatMap spE)
  bel : Below w.heap.size w wx
section
variable {w wx w' : World} {u v' : Value} {acc : List Sp} {x : Sp}
theorem SO.app (h : SO w u acc wx) (ho : w'.ownsRow w.heap.size 77 3 v' (acc.length + 1) (acc.flatMap spE ++ spE x)) (hg : wx.grownBy w' u.ownBlock) : SO w v' (acc ++ [x]) w' :=
  ⟨by rw [flat_snocS, List.length_append]; exact ho, below_own h.bel h.own hg h.bel.size (Nat.le_refl _)⟩
theorem SO.start (w : World) : SO w (.slice none 0 0) [] w := ⟨World.ownsRow_nil _ _ _ _, Below.refl _ _⟩
end
end Go.Proofs.YtamcmehmcbjgjaaGreatDoor
