import Derived.Test.YtamcmehmcbjgjaaGreatDoorPadC
import Derived.Test.YtamcmehmcbjgjaaGreatDoorSortS
/- pad.signals, tumbref1.ofLane. Printed by wip/genpadd.py. -/
namespace Go.Proofs.YtamcmehmcbjgjaaGreatDoor
open Go.RowKit Go.Shelf Go.Lib Go.Sort
set_option linter.unusedVariables false

/-- a list under way: a row of the call's own -/
structure OL {α : Type} (enc : α → List Value) (size : Nat) (e : TypeId) (w : World) (u : Value) (L : List α) (wx : World) : Prop where
  own : wx.ownsRow w.heap.size e size u L.length (L.flatMap enc)
  bel : Below w.heap.size w wx
section
variable {α : Type} {enc : α → List Value} {size : Nat} {e : TypeId} {w wx w' : World} {u v' : Value} {L : List α} {x : α}
theorem OL.below (h : OL enc size e w u L wx) (B : Below wx.heap.size wx w') : OL enc size e w u L w' := ⟨own_below h.own B, below_next h.bel B⟩
theorem OL.app (h : OL enc size e w u L wx) (ho : w'.ownsRow w.heap.size e size v' (L.length + 1) (L.flatMap enc ++ enc x)) (hg : wx.grownBy w' u.ownBlock) : OL enc size e w v' (L ++ [x]) w' :=
  ⟨by rw [← flat_snoc, List.length_append]; exact ho, below_own h.bel h.own hg h.bel.size (Nat.le_refl _)⟩
theorem OL.start (enc : α → List Value) (size : Nat) (e : TypeId) (w : World) : OL enc size e w (.slice none 0 0) [] w := ⟨World.ownsRow_nil _ _ _ _, Below.refl _ _⟩
end
/-- a signal with its right moment -/
structure Td where
  x : Sg
  tm : Int
instance : Inhabited Td := ⟨⟨default, 0⟩⟩
/-- as the program tells it: with the hundredths after a start -/
def tdE8 (s0 : Int) (t : Td) : List Value := [.string t.x.dev, .int .i64 t.x.no, .int .i64 t.x.kind, .int .i64 t.x.tm, .int .i64 t.x.lane, .int .i64 t.x.time, .int .i64 t.tm, .int .i64 (Int.tdiv (t.tm - s0) 10)]
def tdE7 (t : Td) : List Value := [.string t.x.dev, .int .i64 t.x.no, .int .i64 t.x.kind, .int .i64 t.x.tm, .int .i64 t.x.lane, .int .i64 t.x.time, .int .i64 t.tm]
theorem tdE8_len (s0 : Int) : ∀ x, (tdE8 s0 x).length = 8 := fun _ => rfl
theorem tdE7_len : ∀ x, (tdE7 x).length = 7 := fun _ => rfl
def tdCf (x y : Td) : Int := Lib.compareInt x.tm y.tm
/-- the signals of a kind of a lane of a heat, as they come -/
def lnGo (cl : List Ck) (S : List Int) (H : Nat) (lane kind : Int) : List Sg → List Td
  | [] => []
  | x :: r => if (x.kind = kind ∧ x.lane = lane) ∧ ct (rightV cl x.dev x.tm) S = H then ⟨x, rightV cl x.dev x.tm⟩ :: lnGo cl S H lane kind r else lnGo cl S H lane kind r
theorem lnGo_at {cl : List Ck} {S : List Int} {H : Nat} {lane kind : Int} {l : List Sg} {k : Nat} {x : Sg} (h : l[k]? = some x) : lnGo cl S H lane kind (l.drop k) = if (x.kind = kind ∧ x.lane = lane) ∧ ct (rightV cl x.dev x.tm) S = H then ⟨x, rightV cl x.dev x.tm⟩ :: lnGo cl S H lane kind (l.drop (k + 1)) else lnGo cl S H lane kind (l.drop (k + 1)) := by rw [drop_at h]; rfl
theorem lnGo_len (cl : List Ck) (S : List Int) (H : Nat) (lane kind : Int) : ∀ l : List Sg, (lnGo cl S H lane kind l).length ≤ l.length
  | [] => Nat.le_refl _
  | x :: r => by
    have := lnGo_len cl S H lane kind r
    unfold lnGo
    split <;> (simp only [List.length_cons]; omega)
/-- .. by their right moments -/
def tdL (cl : List Ck) (l : List Sg) (H : Nat) (lane kind : Int) : List Td := insL (ltOf tdCf) (lnGo cl (startsV cl l) H lane kind l)
theorem tdL_len (cl : List Ck) (l : List Sg) (H : Nat) (lane kind : Int) : (tdL cl l H lane kind).length ≤ l.length := by
  unfold tdL; rw [insL_len]; exact lnGo_len _ _ _ _ _ _
def s0V (cl : List Ck) (l : List Sg) (H : Nat) : Int := (startsV cl l).getD (H - 1) 0
theorem startsV_bd (cl : List Ck) (l : List Sg) : ∀ x ∈ startsV cl l, 0 ≤ x ∧ x ≤ 345686399999 := by
  intro x hx
  have h1 := (compact_sub _).subset hx
  rw [List.mem_mergeSort] at h1
  have h2 : ∀ (l : List Sg), x ∈ stGo cl l → 0 ≤ x ∧ x ≤ 345686399999 := by
    intro l
    induction l with
    | nil => intro h; cases h
    | cons y r ih =>
      intro h
      unfold stGo at h
      split at h
      · rcases List.mem_cons.1 h with rfl | h
        · exact rightV_bd cl _ _
        · exact ih h
      · exact ih h
  exact h2 l h1
theorem td10_bd {a : Int} (h0 : -4611686018427387904 ≤ a) (h1 : a ≤ 4611686018427387904) : -9223372036854775808 ≤ a.tdiv 10 ∧ a.tdiv 10 ≤ 9223372036854775807 := by
  have h2 : (a.tdiv 10).natAbs ≤ a.natAbs := by rw [Int.natAbs_tdiv]; exact Nat.div_le_self _ _
  omega
def CapOk (A : Option Addr) (n c : Nat) : Prop := (A = none ∧ n = 0 ∧ c = 0) ∨ ∃ b, A = some ⟨b, 0, none⟩ ∧ n ≤ c
theorem capOk_own {w : World} {base : Nat} {e : TypeId} {size n c : Nat} {A : Option Addr} {xs : List Value} (h : w.ownsRow base e size (.slice A n c) n xs) : CapOk A n c := by
  rcases h.2 with ⟨h9, h0⟩ | ⟨g9, cap, cur, hv9, h1, h2, h3, h4⟩
  · injection h9 with e1 e2 e3
    exact .inl ⟨e1, h0, e3⟩
  · injection hv9 with e1 e2 e3
    exact .inr ⟨g9, e1, by omega⟩
end Go.Proofs.YtamcmehmcbjgjaaGreatDoor

/- tumbref1.ofLane. Printed by wip/genpadd.py. -/
namespace Go.Proofs.YtamcmehmcbjgjaaGreatDoor
open Go.RowKit Go.Shelf Go.Lib Go.Sort
set_option linter.unusedVariables false

end Go.Proofs.YtamcmehmcbjgjaaGreatDoor

/- pad.touches, tumbref1.hundredths, pad.Touches, tumbref1.TouchesOf. Printed by wip/genpadf.py. -/
namespace Go.Proofs.YtamcmehmcbjgjaaGreatDoor
open Go.RowKit Go.Shelf Go.Lib Go.Sort
set_option linter.unusedVariables false

theorem own_base {w : World} {base base' n size : Nat} {e : TypeId} {v : Value} {xs : List Value} (h : w.ownsRow base e size v n xs) (hb : base' ≤ base) : w.ownsRow base' e size v n xs :=
  ⟨h.1, h.2.imp id (fun ⟨g, cap, cur, hv, hbg, hr⟩ => ⟨g, cap, cur, hv, Nat.le_trans hb hbg, hr⟩)⟩
/-- the hundredths after a start that are times -/
def huGo (s0 : Int) : List Td → List Int
  | [] => []
  | x :: r => if (x.tm - s0).tdiv 10 ≤ 360000 then (x.tm - s0).tdiv 10 :: huGo s0 r else huGo s0 r
theorem huGo_at {s0 : Int} {l : List Td} {k : Nat} {x : Td} (h : l[k]? = some x) : huGo s0 (l.drop k) = if (x.tm - s0).tdiv 10 ≤ 360000 then (x.tm - s0).tdiv 10 :: huGo s0 (l.drop (k + 1)) else huGo s0 (l.drop (k + 1)) := by rw [drop_at h]; rfl
theorem huGo_len (s0 : Int) : ∀ l : List Td, (huGo s0 l).length ≤ l.length
  | [] => Nat.le_refl _
  | x :: r => by
    have := huGo_len s0 r
    unfold huGo
    split <;> (simp only [List.length_cons]; omega)
def touV (cl : List Ck) (l : List Sg) (H : Nat) (lane : Int) : List Int := Lib.compact (huGo (s0V cl l H) (tdL cl l H lane 2))
theorem touV_len (cl : List Ck) (l : List Sg) (H : Nat) (lane : Int) : (touV cl l H lane).length ≤ l.length :=
  Nat.le_trans (Lib.compact_length_le _) (Nat.le_trans (huGo_len _ _) (tdL_len _ _ _ _ _))
theorem tdL_bd (cl : List Ck) (l : List Sg) (H : Nat) (lane kind : Int) : ∀ x ∈ tdL cl l H lane kind, 0 ≤ x.tm ∧ x.tm ≤ 345686399999 := by
  intro x hx
  unfold tdL at hx
  have hS : SWO (ltOf tdCf) := by
    refine ⟨fun a => ?_, fun a b c => ?_, fun a b c => ?_⟩ <;> unfold ltOf tdCf Lib.compareInt <;> intros <;> (simp at *) <;> (try omega)
    all_goals (repeat' split at *) <;> (try omega) <;> simp_all <;> omega
  have h1 := (insL_spec hS (lnGo cl (startsV cl l) H lane kind l)).1.subset hx
  have h2 : ∀ (l : List Sg) (S : List Int), x ∈ lnGo cl S H lane kind l → 0 ≤ x.tm ∧ x.tm ≤ 345686399999 := by
    intro l S
    induction l with
    | nil => intro h; cases h
    | cons y r ih =>
      intro h
      unfold lnGo at h
      split at h
      · rcases List.mem_cons.1 h with rfl | h
        · exact rightV_bd cl _ _
        · exact ih h
      · exact ih h
  exact h2 _ _ h1
def ttE (cl : List Ck) (l : List Sg) (heat lane : Int) : Int := if bothErr cl l ≠ 0 then bothErr cl l else laneErr cl l heat lane
theorem ttE_ok {cl : List Ck} {l : List Sg} {heat lane : Int} (h : ttE cl l heat lane = 0) : bothErr cl l = 0 ∧ 1 ≤ heat ∧ heat ≤ (startsV cl l).length := by
  unfold ttE at h
  split at h
  · rename_i h1; exact absurd h h1
  · rename_i h1
    unfold laneErr at h
    split at h
    · cases h
    · rename_i h2
      split at h
      · cases h
      · exact ⟨Decidable.not_not.1 h1, by omega, by omega⟩
end Go.Proofs.YtamcmehmcbjgjaaGreatDoor
