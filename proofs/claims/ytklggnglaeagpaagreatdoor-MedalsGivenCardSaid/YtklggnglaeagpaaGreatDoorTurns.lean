import Derived.Test.YtklggnglaeagpaaGreatDoorStructs
import Derived.Test.YtklggnglaeagpaaGreatDoorFill
import Derived.Test.YtklggnglaeagpaaGreatDoorSplits
import Derived.Deep.LoopGhost
/- Fractions in lowest terms: words.Fraction, the reference's divisor and Lowest. -/
namespace Go.Proofs.YtklggnglaeagpaaGreatDoor
open Go.RowKit
set_option linter.unusedVariables false

def fracN (a b : Int) : Int := a / (Int.gcd a b : Int)
def fracD (a b : Int) : Int := b / (Int.gcd a b : Int)
def fracV (a b : Int) : Value := .agg #[.int .i64 (fracN a b), .int .i64 (fracD a b)]
theorem gcd_step {x y : Int} (hx : 0 < x) (hy : 0 ≤ y) : Int.gcd (y % x) x = Int.gcd x y := by
  rw [Int.gcd_comm x y]
  obtain ⟨a, rfl⟩ := Int.eq_ofNat_of_zero_le hy
  obtain ⟨b, rfl⟩ := Int.eq_ofNat_of_zero_le (Int.le_of_lt hx)
  show Nat.gcd ((a : Int) % b).natAbs b = Nat.gcd a b
  rw [← Int.natCast_emod, Int.natAbs_natCast, Nat.gcd_comm a b, Nat.gcd_rec b a]
theorem gcd_zero {y : Int} (hy : 0 ≤ y) : ((Int.gcd 0 y : Nat) : Int) = y := by rw [Int.gcd_zero_left]; omega
theorem gcd_zero' {y : Int} (hy : 0 ≤ y) : ((Int.gcd y 0 : Nat) : Int) = y := by rw [Int.gcd_zero_right]; omega
theorem gcd_pos {a b : Int} (hb : 0 < b) : (1 : Int) ≤ (Int.gcd a b : Int) := by
  have : 0 < Int.gcd a b := Int.gcd_pos_of_ne_zero_right a (by omega)
  omega
theorem gcd_le {a b : Int} (hb : 0 < b) : ((Int.gcd a b : Nat) : Int) ≤ b := Int.le_of_dvd hb (Int.gcd_dvd_right _ _)

end Go.Proofs.YtklggnglaeagpaaGreatDoor

/- timing.Laps and the reference's LapsOf. -/
namespace Go.Proofs.YtklggnglaeagpaaGreatDoor
open Go.RowKit
set_option linter.unusedVariables false

def lapAt (l : List Int) (i : Nat) : Int := if i = 0 then l.getD i 0 else if l.getD i 0 ≠ 0 ∧ l.getD (i - 1) 0 ≠ 0 then l.getD i 0 - l.getD (i - 1) 0 else 0
def lapsL (l : List Int) : List Int := listOf (lapAt l) l.length
theorem lapAt_zero {l : List Int} {x : Int} (h : l[0]? = some x) : lapAt l 0 = x := by unfold lapAt; rw [if_pos rfl]; exact getD_of h
theorem lapAt_succ {l : List Int} {k : Nat} {x y : Int} (hk : 0 < k) (h : l[k]? = some x) (h' : l[k - 1]? = some y) : lapAt l k = if x ≠ 0 ∧ y ≠ 0 then x - y else 0 := by
  unfold lapAt; rw [if_neg (by omega), getD_of h, getD_of h']

end Go.Proofs.YtklggnglaeagpaaGreatDoor

/- Even and proportional splits: race.Even, Like; the references EvenOf, LikeOf, rising. -/
namespace Go.Proofs.YtklggnglaeagpaaGreatDoor
open Go.RowKit
set_option linter.unusedVariables false

def risingF : List Int → Int → Bool
  | [], _ => true
  | x :: r, last => if x ≤ last then false else risingF r x
theorem rising_at {l : List Int} {k : Nat} {x last : Int} (h : l[k]? = some x) : risingF (l.drop k) last = if x ≤ last then false else risingF (l.drop (k + 1)) x := by rw [drop_at h]; rfl
/-- what a list of splits comes to: itself, or nothing with an error -/
def riseL (l : List Int) : List Int := if risingF l 0 then l else []
def riseE (l : List Int) : Int := if risingF l 0 then 0 else 16
/-- a call that answers with a list of ints and an error -/
def RetLE (B : World) (L : List Int) (E : Int) (e : Ending) (w' : World) : Prop :=
  ∃ A n c, e = .returned (.tuple #[.slice A n c, .int .i64 E]) ∧ RI 3 w' A n L ∧ Below B.heap.size B w'

theorem retLE_t {B w' : World} {A : Option Addr} {n c : Nat} {L : List Int} (hr : RI 3 w' A n L) (hb : Below B.heap.size B w') (h : risingF L 0 = true) : RetLE B (riseL L) (riseE L) (.returned (.tuple #[.slice A n c, .int .i64 0])) w' := by
  unfold riseL riseE; rw [if_pos h, if_pos h]; exact ⟨A, n, c, rfl, hr, hb⟩
theorem retLE_f {B w' : World} {L : List Int} (hb : Below B.heap.size B w') (h : risingF L 0 = false) : RetLE B (riseL L) (riseE L) (.returned (.tuple #[.slice none 0 0, .int .i64 16])) w' := by
  unfold riseL riseE; rw [if_neg (by simp [h]), if_neg (by simp [h])]; exact ⟨none, 0, 0, rfl, R1.nil_ _ _ _ _, hb⟩
theorem retLE_e {B w' : World} (x : Int) (hb : Below B.heap.size B w') : RetLE B [] x (.returned (.tuple #[.slice none 0 0, .int .i64 x])) w' := ⟨none, 0, 0, rfl, R1.nil_ _ _ _ _, hb⟩
def evGo (t N : Int) : Nat → Int → List Int
  | 0, _ => []
  | m + 1, k => (t * k / N) :: evGo t N m (k + 1)
def evenL (t N : Int) : List Int := evGo t N N.toNat 1

theorem mulT_bd {a b : Int} (h0 : 0 ≤ a) (h1 : a ≤ 360000) (h2 : 0 ≤ b) (h3 : b ≤ 360000) : 0 ≤ a * b ∧ a * b ≤ 129600000000 := by
  have := mul_bd h0 h1 h2 h3
  omega

end Go.Proofs.YtklggnglaeagpaaGreatDoor

/- Splits in proportion: race.Like and the reference's LikeOf. -/
namespace Go.Proofs.YtklggnglaeagpaaGreatDoor
open Go.RowKit
set_option linter.unusedVariables false

def likeF (last t : Int) (l : List Int) : List Int := l.map fun x => x * t / last
def likeL (l : List Int) (t : Int) : List Int := likeF (l.getLastD 0) t l
theorem likeF_at {last t : Int} {l : List Int} {k : Nat} {x : Int} (h : l[k]? = some x) : likeF last t (l.drop k) = (x * t / last) :: likeF last t (l.drop (k + 1)) := by rw [drop_at h]; rfl
theorem wholeErr_ok {r : Race} {l : List Int} (h : wholeErr r l = 0) : checkSp r l = 0 ∧ raceErr r = 0 ∧ knownErr r l = 0 ∧ splitsErr r l = 0 ∧ hasB l 0 = false := by
  unfold wholeErr at h
  split at h
  · omega
  · rename_i h0
    have h0' : raceErr r = 0 := by omega
    have hk := h
    unfold knownErr at h
    split at h
    · omega
    · rename_i h1
      refine ⟨checkSp_of h0' (by omega), h0', hk, by omega, ?_⟩
      cases hb : hasB l 0 with
      | false => rfl
      | true => rw [hb] at h; simp at h
theorem last_bd {l : List Int} (hn : 1 ≤ l.length) (h : ∀ x ∈ l, 0 ≤ x ∧ x ≤ 360000) (h1 : l.getLastD 0 ≠ 0) : 1 ≤ l.getLastD 0 ∧ l.getLastD 0 ≤ 360000 := by
  have := h _ (mem_of_at (last_at (n := l.length) rfl (by omega)))
  omega

end Go.Proofs.YtklggnglaeagpaaGreatDoor

/- How far somebody is: race.where, far, LineAt; the reference's farAt, FarOf. -/
namespace Go.Proofs.YtklggnglaeagpaaGreatDoor
open Go.RowKit
set_option linter.unusedVariables false

/-- how far at t: lengths of c metres, tot in all; i lengths are over, the last one at 'last'. -/
def farGo (c tot t : Int) : List Int → Int → Int → Int × Int
  | [], _, _ => (tot, 1)
  | x :: l, i, last => if t < x then (i * c * (x - last) + c * (t - last), x - last) else farGo c tot t l (i + 1) x
def farP (c tot : Int) (l : List Int) (t : Int) : Int × Int := farGo c tot t l 0 0
theorem farGo_at {c tot t i last x : Int} {l : List Int} {k : Nat} (h : l[k]? = some x) : farGo c tot t (l.drop k) i last = if t < x then (i * c * (x - last) + c * (t - last), x - last) else farGo c tot t (l.drop (k + 1)) (i + 1) x := by rw [drop_at h]; rfl
/-- the k-th is the first one after t -/
theorem farGo_found {c tot t : Int} : ∀ (l : List Int) (i last : Int) (k : Nat) (x : Int), (∀ j y, j < k → l[j]? = some y → y ≤ t) → l[k]? = some x → t < x → farGo c tot t l i last = (((i + k) * c * (x - (if k = 0 then last else l.getD (k - 1) 0)) + c * (t - (if k = 0 then last else l.getD (k - 1) 0))), x - (if k = 0 then last else l.getD (k - 1) 0))
  | [], _, _, k, x, _, h, _ => by simp at h
  | y :: l, i, last, 0, x, _, h, hx => by
    obtain rfl : y = x := by simpa using h
    simp [farGo, hx]
  | y :: l, i, last, k + 1, x, hj, h, hx => by
    have hy : y ≤ t := hj 0 y (by omega) rfl
    have ih := farGo_found l (i + 1) y k x (c := c) (tot := tot) (t := t) (fun j z hjk hz => hj (j + 1) z (by omega) (by simpa using hz)) (by simpa using h) hx
    show (if t < y then _ else farGo c tot t l (i + 1) y) = _
    rw [if_neg (by omega), ih]
    have e : i + 1 + (k : Int) = i + ((k + 1 : Nat) : Int) := by omega
    rw [e]
    by_cases hk : k = 0
    · subst hk; simp
    · obtain ⟨m, rfl⟩ : ∃ m, k = m + 1 := ⟨k - 1, by omega⟩
      simp
theorem farGo_none {c tot t : Int} : ∀ (l : List Int) (i last : Int), (∀ y ∈ l, y ≤ t) → farGo c tot t l i last = (tot, 1)
  | [], _, _, _ => rfl
  | y :: l, i, last, h => by
    show (if t < y then _ else farGo c tot t l (i + 1) y) = _
    rw [if_neg (by have := h y (by simp); omega)]
    exact farGo_none l _ _ (fun z hz => h z (by simp [hz]))

/-- rising: what it gives -/
theorem rise_of : ∀ {l : List Int} {last : Int}, spErrL l last = 0 → hasB l 0 = false → risingF l last = true
  | [], _, _, _ => rfl
  | x :: l, last, h, hz => by
    have hx : x ≠ 0 := by intro e; subst e; simp [hasB] at hz
    have hz' : hasB l 0 = false := by unfold hasB at hz ⊢; simp at hz ⊢; exact hz.2
    unfold spErrL at h
    split at h
    · cases h
    · split at h
      · cases h
      · rename_i h1
        show (if x ≤ last then false else risingF l x) = true
        rw [if_neg (fun hh => h1 ⟨hx, hh⟩)]
        exact rise_of h hz'
theorem rise_gt : ∀ {l : List Int} {last : Int} {j : Nat} {y : Int}, risingF l last = true → l[j]? = some y → last < y
  | [], _, _, _, _, hj => by simp at hj
  | x :: l, last, j, y, h, hj => by
    have h' : (if x ≤ last then false else risingF l x) = true := h
    split at h'
    · cases h'
    · rename_i h1
      cases j with
      | zero => obtain rfl : x = y := by simpa using hj
                omega
      | succ j => have := rise_gt (j := j) h' (by simpa using hj)
                  omega
theorem rise_lt : ∀ {l : List Int} {last : Int} {i j : Nat} {x y : Int}, risingF l last = true → i < j → l[i]? = some x → l[j]? = some y → x < y
  | [], _, _, _, _, _, _, _, hi, _ => by simp at hi
  | z :: l, last, i, j, x, y, h, hij, hi, hj => by
    have h' : (if z ≤ last then false else risingF l z) = true := h
    split at h'
    · cases h'
    · obtain ⟨j', rfl⟩ : ∃ j', j = j' + 1 := ⟨j - 1, by omega⟩
      cases i with
      | zero => obtain rfl : z = x := by simpa using hi
                exact rise_gt h' (by simpa using hj)
      | succ i => exact rise_lt (i := i) (j := j') h' (by omega) (by simpa using hi) (by simpa using hj)
theorem whole_rise {r : Race} {l : List Int} (h : wholeErr r l = 0) : risingF l 0 = true := by
  obtain ⟨_, _, _, hs, hz⟩ := wholeErr_ok h
  exact rise_of (splitsErr_ok hs).2.1 hz

theorem farP_found {c tot t : Int} {l : List Int} {k : Nat} {x y : Int} (h1 : ∀ j y, j < k → l[j]? = some y → y ≤ t) (h2 : l[k]? = some x) (h3 : t < x) (hy : y = if k = 0 then 0 else l.getD (k - 1) 0) : farP c tot l t = (c * (k * (x - y) + t - y), x - y) := by
  unfold farP
  rw [farGo_found l 0 0 k x h1 h2 h3, ← hy]
  congr 1
  rw [Int.zero_add, show (k : Int) * (x - y) + t - y = k * (x - y) + (t - y) by omega, Int.mul_add, ← Int.mul_assoc, Int.mul_comm c k]
theorem farP_none {c tot t : Int} {l : List Int} (h : ∀ (j : Nat) (y : Int), l[j]? = some y → y ≤ t) : farP c tot l t = (tot, 1) :=
  farGo_none l _ _ (fun y hy => by obtain ⟨j, hj⟩ := List.mem_iff_getElem?.mp hy; exact h j y hj)
theorem len_tot {r : Race} (h : raceErr r = 0) : lenV r * r.course = r.metres * r.legs := by
  obtain ⟨_, _, _, _, _, hc, h1, h2, h3, h4, _, _, _, h5⟩ := raceErr_ok h
  unfold lenV
  have : r.metres / r.course * r.course = r.metres := by rcases hc with hc | hc <;> rw [hc] at h5 ⊢ <;> omega
  rw [Int.mul_right_comm, this]

end Go.Proofs.YtklggnglaeagpaaGreatDoor

/- race.far, LineAt; the reference's farAt, FarOf. -/
namespace Go.Proofs.YtklggnglaeagpaaGreatDoor
open Go.RowKit
set_option linter.unusedVariables false

theorem farGo_bd {c tot t : Int} (hc : c = 25 ∨ c = 50) (ht : 0 ≤ tot ∧ tot ≤ 12000) (htt : t ≤ 360000) : ∀ (l : List Int) (i last : Int), 0 ≤ i → i + (l.length : Int) ≤ 240 → 0 ≤ last → last ≤ t → (∀ x ∈ l, 0 ≤ x ∧ x ≤ 360000) →
    0 ≤ (farGo c tot t l i last).1 ∧ (farGo c tot t l i last).1 ≤ 4400000000 ∧ 0 < (farGo c tot t l i last).2 ∧ (farGo c tot t l i last).2 ≤ 360000
  | [], _, _, _, _, _, _, _ => by unfold farGo; dsimp only; omega
  | x :: l, i, last, h0, h1, h2, h3, h4 => by
    have hx := h4 x (by simp)
    have e : ((x :: l).length : Int) = (l.length : Int) + 1 := by simp
    rw [e] at h1
    unfold farGo
    split
    · have m1 := mul_bd (a := i) (b := c) (A := 240) (B := 50) (by omega) (by omega) (by omega) (by omega)
      have m2 := mul_bd (a := i * c) (b := x - last) (A := 12000) (B := 360000) (by omega) (by omega) (by omega) (by omega)
      have m3 := mul_bd (a := c) (b := t - last) (A := 50) (B := 360000) (by omega) (by omega) (by omega) (by omega)
      dsimp only
      omega
    · exact farGo_bd hc ht htt l (i + 1) x (by omega) (by omega) (by omega) (by omega) (fun y hy => h4 y (by simp [hy]))
theorem farP_bd {r : Race} {l : List Int} {t : Int} (h : wholeErr r l = 0) (h0 : 0 ≤ t) (h1 : t ≤ 360000) : 0 ≤ (farP r.course (r.metres * r.legs) l t).1 ∧ (farP r.course (r.metres * r.legs) l t).1 ≤ 4400000000 ∧ 0 < (farP r.course (r.metres * r.legs) l t).2 ∧ (farP r.course (r.metres * r.legs) l t).2 ≤ 360000 := by
  obtain ⟨hc, hre, _, hs, _⟩ := wholeErr_ok h
  obtain ⟨hn1, hn, hbd⟩ := splits_bd hc
  obtain ⟨_, _, _, _, _, hco, _, _, _, _, _⟩ := raceErr_ok hre
  have htot := len_tot hre
  have := lenV_bd hre
  have hm := mul_bd (a := lenV r) (b := r.course) (A := 240) (B := 50) (by omega) (by omega) (by omega) (by omega)
  rw [htot] at hm
  exact farGo_bd hco ⟨hm.1, by omega⟩ h1 l 0 0 (by omega) (by omega) (by omega) h0 hbd

theorem alloc_size (w : World) (o : Obj) : (w.alloc o).heap.size = w.heap.size + 1 := by simp
end Go.Proofs.YtklggnglaeagpaaGreatDoor

/- Halves, and how the second one compares: timing.Halves, race.Fade; the reference's HalvesOf. -/
namespace Go.Proofs.YtklggnglaeagpaaGreatDoor
open Go.RowKit
set_option linter.unusedVariables false

def halfE (l : List Int) : Int := if l.length % 2 = 1 then 3 else if l.getD (l.length / 2 - 1) 0 = 0 then 8 else 0
def halfA (l : List Int) : Int := if halfE l = 0 then l.getD (l.length / 2 - 1) 0 else 0
def halfB (l : List Int) : Int := if halfE l = 0 then l.getLastD 0 - halfA l else 0
def halfV (l : List Int) : Value := .tuple #[.int .i64 (halfA l), .int .i64 (halfB l), .int .i64 (halfE l)]
theorem half_odd {l : List Int} {n : Nat} (h : l.length = n) (h1 : n % 2 = 1) : halfV l = .tuple #[.int .i64 0, .int .i64 0, .int .i64 3] := by
  have e : halfE l = 3 := by unfold halfE; rw [if_pos (by rw [h]; exact h1)]
  unfold halfV halfB halfA; rw [e]; rfl
theorem half_none {l : List Int} {n : Nat} {x : Int} (h : l.length = n) (h1 : n % 2 = 0) (hx : l[n / 2 - 1]? = some x) (h2 : x = 0) : halfV l = .tuple #[.int .i64 0, .int .i64 0, .int .i64 8] := by
  subst h
  have e : halfE l = 8 := by unfold halfE; rw [if_neg (by omega), getD_of hx, if_pos h2]
  unfold halfV halfB halfA; rw [e]; rfl
theorem half_ok {l : List Int} {n : Nat} {x y : Int} (h : l.length = n) (h1 : n % 2 = 0) (hx : l[n / 2 - 1]? = some x) (hy : l[n - 1]? = some y) (h2 : x ≠ 0) (hn : 0 < n) : halfV l = .tuple #[.int .i64 x, .int .i64 (y - x), .int .i64 0] := by
  have hla := last_at h hn
  subst h
  rw [hla] at hy
  obtain rfl := Option.some.inj hy
  have e : halfE l = 0 := by unfold halfE; rw [if_neg (by omega), getD_of hx, if_neg h2]
  have e2 : halfA l = x := by unfold halfA; rw [if_pos e, getD_of hx]
  unfold halfV halfB; rw [e, e2]; rfl

end Go.Proofs.YtklggnglaeagpaaGreatDoor

/- The fastest and the slowest length: race.Turns, the reference's TurnsOf; halves and race.Fade. -/
namespace Go.Proofs.YtklggnglaeagpaaGreatDoor
open Go.RowKit
set_option linter.unusedVariables false

def tGo (L : List Int) : List Int → Nat → Nat → Nat → Nat × Nat
  | [], _, f, s => (f, s)
  | x :: r, k, f, s => tGo L r (k + 1) (if x < L.getD f 0 then k else f) (if L.getD s 0 < x then k else s)
def turnsP (L : List Int) : Nat × Nat := tGo L L 0 0 0
theorem tGo_at {L l : List Int} {k f s : Nat} {x y z : Int} (h : l[k]? = some x) (hf : L[f]? = some y) (hs : L[s]? = some z) : tGo L (l.drop k) k f s = tGo L (l.drop (k + 1)) (k + 1) (if x < y then k else f) (if z < x then k else s) := by
  rw [drop_at h, tGo, getD_of hf, getD_of hs]
theorem tGo_lt {L : List Int} : ∀ (l : List Int) (k f s n : Nat), k + l.length = n → f < n → s < n → (tGo L l k f s).1 < n ∧ (tGo L l k f s).2 < n
  | [], k, f, s, n, _, h1, h2 => ⟨h1, h2⟩
  | x :: l, k, f, s, n, h, h1, h2 => by
    rw [List.length_cons] at h
    unfold tGo
    exact tGo_lt l (k + 1) _ _ n (by omega) (by split <;> omega) (by split <;> omega)
theorem lapsL_len (l : List Int) : (lapsL l).length = l.length := by unfold lapsL listOf; simp

end Go.Proofs.YtklggnglaeagpaaGreatDoor
