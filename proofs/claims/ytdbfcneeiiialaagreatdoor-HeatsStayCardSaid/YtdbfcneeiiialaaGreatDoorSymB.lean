import Derived.Test.YtdbfcneeiiialaaGreatDoorSortB
import Derived.Test.YtdbfcneeiiialaaGreatDoorSeedM
import Derived.Test.YtdbfcneeiiialaaGreatDoorOrdR20
import Derived.BigRegion
import Derived.Test.YtdbfcneeiiialaaGreatDoorMkReg
import Derived.Deep.RegionHeld3
/- PLAIN: slices.SortStableFunc of more than 20 elements, as the code does it: a function of the list and the comparison, and a permutation. -/
namespace Go.Proofs.YtdbfcneeiiialaaGreatDoor
open Go.RowKit Go.Shelf Go.Lib Go.Sort
set_option linter.unusedVariables false

section
variable {α : Type} [Inhabited α]
/-- two change places -/
def swL (i j : Nat) (l : List α) : List α := (l.set i (l.getD j default)).set j (l.getD i default)
theorem swL_len (i j : Nat) (l : List α) : (swL i j l).length = l.length := by unfold swL; rw [List.length_set, List.length_set]
theorem swL_perm {i j : Nat} {l : List α} (hi : i < l.length) (hj : j < l.length) : (swL i j l).Perm l := by
  unfold swL
  rw [List.getD_eq_getElem?_getD, List.getD_eq_getElem?_getD, List.getElem?_eq_getElem hi, List.getElem?_eq_getElem hj]
  exact List.set_set_perm hi hj
def bsF (t : Nat → Bool) : Nat → Nat → Nat → Nat
  | 0, i, _ => i
  | f + 1, i, j => if i < j then (if t ((i + j) / 2) then bsF t f ((i + j) / 2 + 1) j else bsF t f i ((i + j) / 2)) else i
theorem bsF_bd (t : Nat → Bool) : ∀ (f i j : Nat), i ≤ j → i ≤ bsF t f i j ∧ bsF t f i j ≤ j
  | 0, i, j, h => ⟨Nat.le_refl _, h⟩
  | f + 1, i, j, h => by
    unfold bsF
    split
    · split
      · have := bsF_bd t f ((i + j) / 2 + 1) j (by omega); omega
      · have := bsF_bd t f i ((i + j) / 2) (by omega); omega
    · omega
def mvU : Nat → Nat → List α → List α
  | 0, _, l => l
  | n + 1, k, l => mvU n (k + 1) (swL k (k + 1) l)
def mvD : Nat → Nat → List α → List α
  | 0, _, l => l
  | n + 1, k, l => mvD n (k - 1) (swL k (k - 1) l)
def swR : Nat → Nat → Nat → List α → List α
  | 0, _, _, l => l
  | n + 1, a, b, l => swR n (a + 1) (b + 1) (swL a b l)
/-- rotate: i elements ahead of m, j behind -/
def rotF : Nat → Nat → Nat → Nat → List α → List α
  | 0, i, j, m, l => swR i (m - i) m l
  | f + 1, i, j, m, l => if i = j then swR i (m - i) m l else if j < i then rotF f (i - j) j m (swR j (m - i) m l) else rotF f i (j - i) m (swR i (m - i) (m + j - i) l)
def symF (lt : α → α → Bool) : Nat → Nat → Nat → Nat → List α → List α
  | 0, _, _, _, l => l
  | f + 1, a, m, b, l =>
    if m - a = 1 then
      let i := bsF (fun h => lt (l.getD h default) (l.getD a default)) (b - m) m b
      mvU (i - 1 - a) a l
    else if b - m = 1 then
      let i := bsF (fun h => !lt (l.getD m default) (l.getD h default)) (m - a) a m
      mvD (m - i) m l
    else
      let mid := (a + b) / 2
      let n := mid + m
      let s := bsF (fun c => !lt (l.getD (n - 1 - c) default) (l.getD c default)) b (if mid < m then n - b else a) (if mid < m then mid else m)
      let e := n - s
      let l1 := if s < m ∧ m < e then rotF (b + 1) (m - s) (e - m) m l else l
      let l2 := if a < s ∧ s < mid then symF lt f a s mid l1 else l1
      if mid < e ∧ e < b then symF lt f mid e b l2 else l2
theorem mvU_perm : ∀ (n k : Nat) (l : List α), k + n < l.length → (mvU n k l).Perm l
  | 0, _, _, _ => List.Perm.refl _
  | n + 1, k, l, h => (mvU_perm n (k + 1) _ (by rw [swL_len]; omega)).trans (swL_perm (by omega) (by omega))
theorem mvD_perm : ∀ (n k : Nat) (l : List α), n ≤ k → k < l.length → (mvD n k l).Perm l
  | 0, _, _, _, _ => List.Perm.refl _
  | n + 1, k, l, h, h2 => (mvD_perm n (k - 1) _ (by omega) (by rw [swL_len]; omega)).trans (swL_perm (by omega) (by omega))
theorem swR_perm : ∀ (n a b : Nat) (l : List α), a + n ≤ l.length → b + n ≤ l.length → (swR n a b l).Perm l
  | 0, _, _, _, _, _ => List.Perm.refl _
  | n + 1, a, b, l, h, h2 => (swR_perm n (a + 1) (b + 1) _ (by rw [swL_len]; omega) (by rw [swL_len]; omega)).trans (swL_perm (by omega) (by omega))
theorem rotF_perm : ∀ (f i j m : Nat) (l : List α), i ≤ m → m + i ≤ l.length ∨ m + j ≤ l.length → m + j ≤ l.length → (i = j ∨ i + j ≤ f + 1) → 0 < i → 0 < j → (rotF f i j m l).Perm l
  | 0, i, j, m, l, h1, _, h2, h3, h4, h5 => swR_perm i (m - i) m l (by omega) (by omega)
  | f + 1, i, j, m, l, h1, h0, h2, h3, h4, h5 => by
    unfold rotF
    split
    · rename_i h; subst h; exact swR_perm i (m - i) m l (by omega) (by omega)
    · split
      · have hp := swR_perm j (m - i) m l (by omega) (by omega)
        exact (rotF_perm f (i - j) j m _ (by omega) (.inr (by rw [hp.length_eq]; omega)) (by rw [hp.length_eq]; omega) (by omega) (by omega) (by omega)).trans hp
      · have hp := swR_perm i (m - i) (m + j - i) l (by omega) (by omega)
        exact (rotF_perm f i (j - i) m _ (by omega) (.inr (by rw [hp.length_eq]; omega)) (by rw [hp.length_eq]; omega) (by omega) (by omega) (by omega)).trans hp
theorem symF_perm (lt : α → α → Bool) : ∀ (f a m b : Nat) (l : List α), a < m → m < b → b ≤ l.length → (symF lt f a m b l).Perm l
  | 0, _, _, _, _, _, _, _ => List.Perm.refl _
  | f + 1, a, m, b, l, h1, h2, h3 => by
    unfold symF
    split
    · have hb := bsF_bd (fun h => lt (l.getD h default) (l.getD a default)) (b - m) m b (by omega)
      exact mvU_perm _ a l (by omega)
    · split
      · have hb := bsF_bd (fun h => !lt (l.getD m default) (l.getD h default)) (m - a) a m (by omega)
        exact mvD_perm _ m l (by omega) (by omega)
      · rename_i q1 q2
        have hsb := bsF_bd (fun c => !lt (l.getD ((a + b) / 2 + m - 1 - c) default) (l.getD c default)) b (if (a + b) / 2 < m then (a + b) / 2 + m - b else a) (if (a + b) / 2 < m then (a + b) / 2 else m) (by split <;> omega)
        dsimp only
        generalize bsF _ b _ _ = s at *
        have hs : a ≤ s ∧ s ≤ m ∧ s ≤ (a + b) / 2 + m - m + m ∧ ((a + b) / 2 < m → (a + b) / 2 + m - b ≤ s ∧ s ≤ (a + b) / 2) ∧ (¬ (a + b) / 2 < m → a ≤ s ∧ s ≤ m) := by
          split at hsb <;> omega
        have p1 : (if s < m ∧ m < (a + b) / 2 + m - s then rotF (b + 1) (m - s) ((a + b) / 2 + m - s - m) m l else l).Perm l := by
          split
          · rename_i hc
            exact rotF_perm _ _ _ _ _ (by omega) (.inr (by omega)) (by omega) (by omega) (by omega) (by omega)
          · exact List.Perm.refl _
        generalize (if s < m ∧ m < (a + b) / 2 + m - s then rotF (b + 1) (m - s) ((a + b) / 2 + m - s - m) m l else l) = l1 at *
        have p2 : (if a < s ∧ s < (a + b) / 2 then symF lt f a s ((a + b) / 2) l1 else l1).Perm l1 := by
          split
          · rename_i hc; exact symF_perm lt f a s _ l1 hc.1 hc.2 (by rw [p1.length_eq]; omega)
          · exact List.Perm.refl _
        generalize (if a < s ∧ s < (a + b) / 2 then symF lt f a s ((a + b) / 2) l1 else l1) = l2 at *
        split
        · rename_i hc
          exact (symF_perm lt f _ _ b l2 hc.1 hc.2 (by rw [p2.length_eq, p1.length_eq]; omega)).trans (p2.trans p1)
        · exact p2.trans p1
def insAB (lt : α → α → Bool) (a b : Nat) (l : List α) : List α := (Sort.insertionSort lt l.toArray a b).toList
theorem insAB_len (lt : α → α → Bool) (a b : Nat) (l : List α) : (insAB lt a b l).length = l.length := by unfold insAB; rw [Array.length_toList, insS_size]; simp
/-- the stable sort of at most 40 elements -/
def stbF (lt : α → α → Bool) (l : List α) : List α :=
  if l.length ≤ 20 then insL lt l else symF lt l.length 0 20 l.length (insAB lt 20 l.length (insAB lt 0 20 l))
end
end Go.Proofs.YtdbfcneeiiialaaGreatDoor

/- slices.SortStableFunc of seeds, more than 20: the walks (swapRange, rotate, symMerge, stable). -/
namespace Go.Proofs.YtdbfcneeiiialaaGreatDoor
open Go.RowKit Go.Shelf Go.Lib Go.Sort
set_option linter.unusedVariables false

/-- the row under way, and nothing else -/
structure SyW (w : World) (base b n c : Nat) (L : List Sd) (wr : World) : Prop where
  o : wr.ownsRow base 40 2 (.slice (some ⟨b, 0, none⟩) n c) n (L.flatMap sdE)
  g : w.grownBy wr (some b)
  bd : ∀ x ∈ L, 0 ≤ x.time ∧ x.time ≤ 360000
theorem sd_cells {w : World} {base b n c : Nat} {L : List Sd} (h : w.ownsRow base 40 2 (.slice (some ⟨b, 0, none⟩) n c) n (L.flatMap sdE)) {i : Nat} (hi : i < n) : ∃ x, L[i]? = some x ∧ w.cell? ⟨b, i * 2, none⟩ = some (.string x.who) ∧ w.cell? ⟨b, i * 2 + 1, none⟩ = some (.int .i64 x.time) ∧ w.frozen? ⟨b, i * 2, none⟩ = false ∧ w.frozen? ⟨b, i * 2 + 1, none⟩ = false := by
  have hl := own_len sdE_len (by decide) h
  obtain ⟨x, hx⟩ := at_of_lt (l := L) (k := i) (by omega)
  have h0 := flat_atC sdE_len L i 0 x hx (by decide)
  have h1 := flat_atC sdE_len L i 1 x hx (by decide)
  refine ⟨x, hx, ?_, ?_, h.frozenAt _, h.frozenAt _⟩
  · rw [h.cellAt _ (by omega)]; exact h0
  · rw [h.cellAt _ (by omega)]; exact h1
theorem sd_set2 {l : List Sd} {k : Nat} (hk : k < l.length) (v : Sd) : ((l.flatMap sdE).set (k * 2) (.string v.who)).set (k * 2 + 1) (.int .i64 v.time) = (l.set k v).flatMap sdE := by
  obtain ⟨x, hx⟩ := at_of_lt hk
  rw [sdr_set l k v.who x hx, sdr_set1 (l.set k ⟨v.who, x.time⟩) k v.time ⟨v.who, x.time⟩ (by rw [List.getElem?_set_self (by omega)]), List.set_set]
theorem grown_at {w wr : World} {b o : Nat} (h : w.grownBy wr (some b)) (v : Value) : w.grownBy (wr.setCell ⟨b, o, none⟩ v) (some b) :=
  ⟨h.os, h.tape, h.output, by simpa [World.setCell] using h.size, fun i hi hne => (Below.heap_setCell wr _ v i (fun e => hne (by rw [e]))).trans (h.block i hi hne)⟩
theorem SyW.next {w wr w' : World} {base b n c : Nat} {M M' : List Sd} (h : SyW w base b n c M wr) (h2 : SyW wr base b n c M' w') : SyW w base b n c M' w' := ⟨h2.o, grown_trans h.g h2.g, h2.bd⟩
theorem SyW.below {w wr w' : World} {base b n c : Nat} {M : List Sd} (h : SyW w base b n c M wr) (B : Below wr.heap.size wr w') : SyW w base b n c M w' := by
  have hg := grown_of_below (row := none) B
  exact ⟨own_below h.o B, grown_trans h.g ⟨hg.os, hg.tape, hg.output, hg.size, fun i hi _ => hg.block i hi (by simp)⟩, h.bd⟩
theorem SyW.put {w wr : World} {base b n c : Nat} {M : List Sd} (h : SyW w base b n c M wr) {i j : Nat} {x y : Sd} (hx : M[i]? = some x) (hy : M[j]? = some y) : SyW w base b n c (swL i j M) ((((wr.setCell ⟨b, i * 2, none⟩ (.string y.who)).setCell ⟨b, i * 2 + 1, none⟩ (.int .i64 y.time)).setCell ⟨b, j * 2, none⟩ (.string x.who)).setCell ⟨b, j * 2 + 1, none⟩ (.int .i64 x.time)).drew := by
  have h1 := (h.o.stored (i * 2) (.string y.who)).1
  have h2 := (h1.stored (i * 2 + 1) (.int .i64 y.time)).1
  rw [sd_set2 (lt_of_at hx) y] at h2
  have h3 := (h2.stored (j * 2) (.string x.who)).1
  have h4 := (h3.stored (j * 2 + 1) (.int .i64 x.time)).1
  rw [sd_set2 (by rw [List.length_set]; exact lt_of_at hy) x] at h4
  have e : swL i j M = (M.set i y).set j x := by
    unfold swL
    rw [List.getD_eq_getElem?_getD, List.getD_eq_getElem?_getD, hx, hy]; rfl
  rw [e]
  refine ⟨?_, grown_drew (grown_at (grown_at (grown_at (grown_at h.g _) _) _) _), fun z hz => ?_⟩
  rotate_left
  · rcases List.mem_or_eq_of_mem_set hz with h9 | rfl
    · rcases List.mem_or_eq_of_mem_set h9 with h9 | rfl
      · exact h.bd z h9
      · exact h.bd _ (List.mem_of_getElem? hy)
    · exact h.bd _ (List.mem_of_getElem? hx)
  exact own_below h4 (below_drewN (Below.refl _ _) 1)
set_option maxHeartbeats 3200000 in
set_option maxRecDepth 100000 in
theorem swapRange_c (base b n c : Nat) (L : List Sd) (fv : Value) (a bb m : Nat) (w : World) (h : w.ownsRow base 40 2 (.slice (some ⟨b, 0, none⟩) n c) n (L.flatMap sdE)) (hw : ∀ x ∈ L, 0 ≤ x.time ∧ x.time ≤ 360000) (ha : a + m ≤ n) (hb : bb + m ≤ n) (hne : a ≠ bb) (hn : n ≤ 1000) :
    Calls Tryz.prog 366 #[.slice (some ⟨b, 0, none⟩) n c, .int .i64 a, .int .i64 bb, .int .i64 m, fv] w fun e w' => e = .returned (.tuple #[]) ∧ SyW w base b n c (swR m a bb L) w' := by
  have K0 : SyW w base b n c L w := ⟨h, grown_refl _ _, hw⟩
  go_enter Tryz.func366, Tryz.ntmps366
  go_wp2_with fail
  go_loopw [10] (fun iv wr => ∃ (k : Nat) (M : List Sd), k ≤ m ∧ iv = .int .i64 k ∧ SyW w base b n c M wr ∧ Hid (swR (m - k) (a + k) (bb + k) M = swR m a bb L)) (fun iv _ => m - (intOf iv).toNat)
  case atStart => exact ⟨0, L, Nat.zero_le _, rfl, K0, Lib.hid rfl⟩
  case round =>
    clear K0 h
    rename World => wr
    obtain ⟨k, M, hk, rfl, K, hM⟩ := hrel
    by_cases hlt : k < m
    · obtain ⟨i, hi⟩ : ∃ i, a + k = i := ⟨_, rfl⟩
      obtain ⟨j, hj⟩ : ∃ j, bb + k = j := ⟨_, rfl⟩
      have hM2 := Lib.hid (show swR (m - (k + 1)) (a + (k + 1)) (bb + (k + 1)) (swL i j M) = swR m a bb L by
        rw [← hM.out, show m - k = m - (k + 1) + 1 by omega, ← hi, ← hj]; rfl)
      have e1 : IntKind.i64.wrap ((a : Int) + (k : Int)) = (i : Int) := by rw [IntWalk.i64_in _ (by omega)]; omega
      have e2 : IntKind.i64.wrap ((bb : Int) + (k : Int)) = (j : Int) := by rw [IntWalk.i64_in _ (by omega)]; omega
      obtain ⟨x, hx, cx0, cx1, fx0, fx1⟩ := sd_cells K.o (i := i) (by omega)
      obtain ⟨y, hy, cy0, cy1, fy0, fy1⟩ := sd_cells K.o (i := j) (by omega)
      have hin : (i : Int) < (n : Int) := by omega
      have hjn : (j : Int) < (n : Int) := by omega
      have hin' : i < n := by omega
      have hjn' : j < n := by omega
      have hij : i ≠ j := by omega
      have hS := Lib.hid (K.put hx hy)
      obtain ⟨xw, xt⟩ := x
      obtain ⟨yw, yt⟩ := y
      dsimp only at *
      clear hM K hx hy
      go_wp2
      go_region
      clear cx0 cx1 fx0 fx1 cy0 cy1 fy0 fy1
      go_wp2
      go_roundw
      case rel => exact ⟨k + 1, _, by omega, by go_num, hS.out, hM2⟩
      case measure => simp [intOf]; omega
    · obtain rfl : k = m := by omega
      have e : M = swR k a bb L := by rw [← hM.out, Nat.sub_self]; rfl
      go_wp2
      go_end0
      exact ⟨rfl, e ▸ K⟩
theorem rotF_gt {g i j m : Nat} {M : List Sd} (h : i ≠ j) (h2 : j < i) : rotF (g + 1) i j m M = rotF g (i - j) j m (swR j (m - i) m M) := by rw [rotF, if_neg h, if_pos h2]
theorem rotF_le {g i j m : Nat} {M : List Sd} (h : i ≠ j) (h2 : ¬ j < i) : rotF (g + 1) i j m M = rotF g i (j - i) m (swR i (m - i) (m + j - i) M) := by rw [rotF, if_neg h, if_neg h2]
set_option maxHeartbeats 3200000 in
set_option maxRecDepth 100000 in
theorem rotate_c (base b n c : Nat) (L : List Sd) (fv : Value) (a m bb f : Nat) (w : World) (h : w.ownsRow base 40 2 (.slice (some ⟨b, 0, none⟩) n c) n (L.flatMap sdE)) (hw : ∀ x ∈ L, 0 ≤ x.time ∧ x.time ≤ 360000) (ha : a < m) (hb : m < bb) (hbn : bb ≤ n) (hf : bb - a ≤ f + 1) (hn : n ≤ 1000) :
    Calls Tryz.prog 350 #[.slice (some ⟨b, 0, none⟩) n c, .int .i64 a, .int .i64 m, .int .i64 bb, fv] w fun e w' => e = .returned (.tuple #[]) ∧ SyW w base b n c (rotF f (m - a) (bb - m) m L) w' := by
  have K0 : SyW w base b n c L w := ⟨h, grown_refl _ _, hw⟩
  have hSw := Lib.hid (fun M p q k W (hW : SyW w base b n c M W) h1 h2 h3 => show Calls Tryz.prog 366 #[.slice (some ⟨b, 0, none⟩) n c, .int .i64 (p : Nat), .int .i64 (q : Nat), .int .i64 (k : Nat), fv] W fun e w' => e = .returned (.tuple #[]) ∧ SyW w base b n c (swR k p q M) w' from (swapRange_c base b n c M fv p q k W hW.o hW.bd h1 h2 h3 hn).mono fun e w' ⟨he, hq⟩ => ⟨he, hW.next hq⟩)
  have e1 : IntKind.i64.wrap ((m : Int) - (a : Int)) = ((m - a : Nat) : Int) := by rw [IntWalk.i64_in _ (by omega)]; omega
  have e2 : IntKind.i64.wrap ((bb : Int) - (m : Int)) = ((bb - m : Nat) : Int) := by rw [IntWalk.i64_in _ (by omega)]; omega
  go_enter Tryz.func350, Tryz.ntmps350
  go_wp2_with fail
  obtain ⟨i0, hi0⟩ : ∃ i0, m - a = i0 := ⟨_, rfl⟩
  obtain ⟨j0, hj0⟩ : ∃ j0, bb - m = j0 := ⟨_, rfl⟩
  rw [hi0] at e1
  rw [hj0] at e2
  rw [hi0, hj0]
  go_loopw [10, 11] (fun iv jv wr => ∃ (g i j : Nat) (M : List Sd), iv = .int .i64 i ∧ jv = .int .i64 j ∧ i ≤ m ∧ m + j ≤ n ∧ 0 < i ∧ 0 < j ∧ i + j ≤ g + 1 ∧ SyW w base b n c M wr ∧ Hid (rotF g i j m M = rotF f i0 j0 m L)) (fun iv jv _ => (intOf iv).toNat + (intOf jv).toNat)
  case atStart => exact ⟨f, i0, j0, L, by first | rfl | rw [hi0], by first | rfl | rw [hj0], by omega, by omega, by omega, by omega, by omega, K0, Lib.hid rfl⟩
  case round =>
    clear K0 h e1 e2
    rename World => wr
    obtain ⟨g, i, j, M, rfl, rfl, h1, h2, h3, h4, h5, K, hM⟩ := hrel
    have u1 : IntKind.i64.wrap ((m : Int) - (i : Int)) = ((m - i : Nat) : Int) := by rw [IntWalk.i64_in _ (by omega)]; omega
    by_cases he : i = j
    · subst he
      have e : rotF g i i m M = swR i (m - i) m M := by cases g <;> simp [rotF]
      have hC := Lib.hid (hSw.out M (m - i) m i wr K (by omega) (by omega) (by omega))
      rw [← e, hM.out] at hC
      have v1 : ((i : Int) != (i : Int)) = false := by simp
      clear hSw K hM e
      go_wp2_with fail
      refine hC.out.mono ?_; rintro e w2 ⟨rfl, K2⟩
      go_wp2
      go_end0
      exact ⟨rfl, by rw [hi0, hj0]; exact K2⟩
    · obtain ⟨g, rfl⟩ : ∃ q, g = q + 1 := ⟨g - 1, by omega⟩
      have v1 : ((i : Int) != (j : Int)) = true := by simp; omega
      by_cases hl : j < i
      · have hM3 := Lib.hid ((rotF_gt he hl).symm.trans hM.out)
        have hC := Lib.hid (hSw.out M (m - i) m j wr K (by omega) (by omega) (by omega))
        have u2 : IntKind.i64.wrap ((i : Int) - (j : Int)) = ((i - j : Nat) : Int) := by rw [IntWalk.i64_in _ (by omega)]; omega
        clear hSw K hM
        go_wp2_with fail
        refine hC.out.mono ?_; rintro e w2 ⟨rfl, K2⟩
        go_wp2
        go_roundw
        case rel => exact ⟨g, i - j, j, _, by go_num, rfl, by omega, by omega, by omega, by omega, by omega, K2, hM3⟩
        case measure => simp [intOf]; omega
      · have hM3 := Lib.hid ((rotF_le he hl).symm.trans hM.out)
        obtain ⟨s, hs⟩ : ∃ s, m + j = s := ⟨_, rfl⟩
        rw [hs] at hM3
        have hC := Lib.hid (hSw.out M (m - i) (s - i) i wr K (by omega) (by omega) (by omega))
        have u2 : IntKind.i64.wrap ((j : Int) - (i : Int)) = ((j - i : Nat) : Int) := by rw [IntWalk.i64_in _ (by omega)]; omega
        have u3 : IntKind.i64.wrap ((m : Int) + (j : Int)) = (s : Int) := by rw [IntWalk.i64_in _ (by omega)]; omega
        have u4 : IntKind.i64.wrap ((s : Int) - (i : Int)) = ((s - i : Nat) : Int) := by rw [IntWalk.i64_in _ (by omega)]; omega
        clear hSw K hM
        go_wp2_with fail
        refine hC.out.mono ?_; rintro e w2 ⟨rfl, K2⟩
        go_wp2
        go_roundw
        case rel => exact ⟨g, i, j - i, _, rfl, by go_num, by omega, by omega, by omega, by omega, by omega, K2, hM3⟩
        case measure => simp [intOf]; omega
theorem bsF_hit {t : Nat → Bool} {g i j : Nat} (h : i < j) (h2 : t ((i + j) / 2) = true) : bsF t (g + 1) i j = bsF t g ((i + j) / 2 + 1) j := by rw [bsF, if_pos h, if_pos h2]
theorem bsF_miss {t : Nat → Bool} {g i j : Nat} (h : i < j) (h2 : t ((i + j) / 2) = false) : bsF t (g + 1) i j = bsF t g i ((i + j) / 2) := by rw [bsF, if_pos h, if_neg (by rw [h2]; decide)]
theorem bsF_end {t : Nat → Bool} {g i j : Nat} (h : ¬ i < j) : bsF t g i j = i := by
  cases g with
  | zero => rfl
  | succ g => rw [bsF, if_neg h]
section
variable {lt : Sd → Sd → Bool} {f a m b : Nat} {l : List Sd}
theorem symF_1 (h : m - a = 1) : symF lt (f + 1) a m b l = mvU (bsF (fun h => lt (l.getD h default) (l.getD a default)) (b - m) m b - 1 - a) a l := by rw [symF, if_pos h]
theorem symF_2 (h : m - a ≠ 1) (h2 : b - m = 1) : symF lt (f + 1) a m b l = mvD (m - bsF (fun h => !lt (l.getD m default) (l.getD h default)) (m - a) a m) m l := by rw [symF, if_neg h, if_pos h2]
theorem symF_3 (h : m - a ≠ 1) (h2 : b - m ≠ 1) : symF lt (f + 1) a m b l =
      let mid := (a + b) / 2
      let n := mid + m
      let s := bsF (fun c => !lt (l.getD (n - 1 - c) default) (l.getD c default)) b (if mid < m then n - b else a) (if mid < m then mid else m)
      let e := n - s
      let l1 := if s < m ∧ m < e then rotF (b + 1) (m - s) (e - m) m l else l
      let l2 := if a < s ∧ s < mid then symF lt f a s mid l1 else l1
      if mid < e ∧ e < b then symF lt f mid e b l2 else l2 := by rw [symF, if_neg h, if_neg h2]
end
end Go.Proofs.YtdbfcneeiiialaaGreatDoor

/- slices.symMergeCmpFunc and stableCmpFunc of seeds by heat.ordered$1. Printed by wip/mksym.py. -/
namespace Go.Proofs.YtdbfcneeiiialaaGreatDoor
open Go.RowKit Go.Shelf Go.Lib Go.Sort
set_option linter.unusedVariables false

set_option maxHeartbeats 6400000 in
set_option maxRecDepth 100000 in
theorem sym1A_c (base b n c : Nat) (M : List Sd) (a m bb f : Nat) (w W : World) (K : SyW w base b n c M W) (h1 : a < m) (h1' : m < a + 2) (h2 : m < bb) (h3 : bb ≤ n) (hn : n ≤ 1000) :
    Calls Tryz.prog 313 #[.slice (some ⟨b, 0, none⟩) n c, .int .i64 a, .int .i64 m, .int .i64 bb, .func (.func 266) #[] #[]] W fun e w' => e = .returned (.tuple #[]) ∧ SyW w base b n c (symF (ltOf sdCf) (f + 1) a m bb M) w' := by
  obtain ⟨T, hT0⟩ : ∃ T : Nat → Bool, (fun h => ltOf sdCf (M.getD h default) (M.getD a default)) = T := ⟨_, rfl⟩
  have hT := Lib.hid (show ∀ h, T h = ltOf sdCf (M.getD h default) (M.getD a default) from fun h => by rw [← hT0])
  obtain ⟨I, hI0⟩ : ∃ I, bsF T (bb - m) m bb = I := ⟨_, rfl⟩
  have hI := Lib.hid hI0
  rw [symF_1 (by omega), hT0, hI0]
  clear hT0 hI0
  have e1 : IntKind.i64.wrap ((m : Int) - (a : Int)) = 1 := by rw [IntWalk.i64_in _ (by omega)]; omega
  go_enter Tryz.func313, Tryz.ntmps313
  go_wp2_with fail
  clear e1
  go_loopw [10, 11, 12] (fun iv jv _ wr => ∃ (g i j : Nat), iv = .int .i64 i ∧ jv = .int .i64 j ∧ m ≤ i ∧ i ≤ j ∧ j ≤ bb ∧ j ≤ i + g ∧ SyW w base b n c M wr ∧ Hid (bsF T g i j = I)) (fun iv jv _ _ => (intOf jv).toNat - (intOf iv).toNat)
  case atStart => exact ⟨bb - m, m, bb, rfl, rfl, Nat.le_refl _, by omega, Nat.le_refl _, by omega, K, hI⟩
  case round =>
    clear K hI
    rename World => wr
    obtain ⟨g, i, j, rfl, rfl, k1, k2, k3, k4, K, hI⟩ := hrel
    by_cases hlt : i < j
    · obtain ⟨g, rfl⟩ : ∃ q, g = q + 1 := ⟨g - 1, by omega⟩
      obtain ⟨q, hq⟩ : ∃ q, (i + j) / 2 = q := ⟨_, rfl⟩
      obtain ⟨x, hx, p0, p1, _, _⟩ := sd_cells K.o (i := q) (by omega)
      obtain ⟨y, hy, p2, p3, _, _⟩ := sd_cells K.o (i := a) (by omega)
      have hC := Lib.hid (fun V => show Calls Tryz.prog 266 #[.agg (sdE x).toArray, .agg (sdE y).toArray] V fun e w' => e = .returned (.int .i64 (sdCf x y)) ∧ Below V.heap.size V w' ∧ V.drawn ≤ w'.drawn from sdCmpA_c x y V (K.bd x (List.mem_of_getElem? hx)) (K.bd y (List.mem_of_getElem? hy)))
      obtain ⟨V, hV⟩ : ∃ V : Int, sdCf x y = V := ⟨_, rfl⟩
      have hTV : T q = decide (V < 0) := by
        rw [hT.out, List.getD_eq_getElem?_getD, List.getD_eq_getElem?_getD, hx, hy]; show ((ltOf sdCf x y)) = _; unfold ltOf; rw [hV]
      rw [hV] at hC
      have m0 : ((i : Int) + (j : Int)) / 2 = (q : Int) := by omega
      have u8 : IntKind.i64.wrap ((q : Int) + 1) = ((q + 1 : Nat) : Int) := by rw [IntWalk.i64_in _ (by omega)]; omega
      have lb : b < wr.heap.size := (K.o.lt b rfl).2
      have n1 : (q : Int) < (n : Int) := by omega
      have n2 : (a : Int) < (n : Int) := by omega
      have n3 : q < n := by omega
      have n4 : a < n := by omega
      obtain ⟨xw, xt⟩ := x
      obtain ⟨yw, yt⟩ := y
      dsimp only [sdE] at *
      clear hx hy hV
      by_cases hv : V < 0
      · have hv1 : decide (V < 0) = true := decide_eq_true hv
        rw [hv1] at hTV
        have hI2 := Lib.hid ((bsF_hit hlt (show T ((i + j) / 2) = true by rw [hq, hTV]; try rfl)).symm.trans hI.out)
        rw [hq] at hI2
        clear hI hTV
        go_wp2_with fail
        go_region_held3 (fun w' => w'.cell? ⟨b, q * 2, none⟩ = some (.string xw) ∧ w'.cell? ⟨b, q * 2 + 1, none⟩ = some (.int .i64 xt) ∧ w'.cell? ⟨b, a * 2, none⟩ = some (.string yw) ∧ w'.cell? ⟨b, a * 2 + 1, none⟩ = some (.int .i64 yt))
          (first | go_keep | with_reducible exact ⟨g0, g1, g2, g3⟩ | with_reducible exact ⟨p0, p1, p2, p3⟩)
          (first | (go_at_call 266; refine (hC.out _).mono ?_; rintro e w8 ⟨rfl, B8, _⟩; have g0 := (B8.cell (p := ⟨b, q * 2, none⟩) lb).trans p0; have g1 := (B8.cell (p := ⟨b, q * 2 + 1, none⟩) lb).trans p1; have g2 := (B8.cell (p := ⟨b, a * 2, none⟩) lb).trans p2; have g3 := (B8.cell (p := ⟨b, a * 2 + 1, none⟩) lb).trans p3))
        have K9 := K.below (below_next (below_drewN (Below.refl _ _) 1) B8)
        clear p0 p1 p2 p3 g0 g1 g2 g3 hC B8 K lb hv
        go_wp2
        go_roundw
        case rel => exact ⟨g, q + 1, j, by first | rfl | go_num, rfl, by omega, by omega, by omega, by omega, K9, hI2⟩
        case measure => simp [intOf]; omega
      · have hv1 : decide (V < 0) = false := decide_eq_false hv
        rw [hv1] at hTV
        have hI2 := Lib.hid ((bsF_miss hlt (show T ((i + j) / 2) = false by rw [hq, hTV]; try rfl)).symm.trans hI.out)
        rw [hq] at hI2
        clear hI hTV
        go_wp2_with fail
        go_region_held3 (fun w' => w'.cell? ⟨b, q * 2, none⟩ = some (.string xw) ∧ w'.cell? ⟨b, q * 2 + 1, none⟩ = some (.int .i64 xt) ∧ w'.cell? ⟨b, a * 2, none⟩ = some (.string yw) ∧ w'.cell? ⟨b, a * 2 + 1, none⟩ = some (.int .i64 yt))
          (first | go_keep | with_reducible exact ⟨g0, g1, g2, g3⟩ | with_reducible exact ⟨p0, p1, p2, p3⟩)
          (first | (go_at_call 266; refine (hC.out _).mono ?_; rintro e w8 ⟨rfl, B8, _⟩; have g0 := (B8.cell (p := ⟨b, q * 2, none⟩) lb).trans p0; have g1 := (B8.cell (p := ⟨b, q * 2 + 1, none⟩) lb).trans p1; have g2 := (B8.cell (p := ⟨b, a * 2, none⟩) lb).trans p2; have g3 := (B8.cell (p := ⟨b, a * 2 + 1, none⟩) lb).trans p3))
        have K9 := K.below (below_next (below_drewN (Below.refl _ _) 1) B8)
        clear p0 p1 p2 p3 g0 g1 g2 g3 hC B8 K lb hv
        go_wp2
        go_roundw
        case rel => exact ⟨g, i, q, rfl, by first | rfl | go_num, by omega, by omega, by omega, by omega, K9, hI2⟩
        case measure => simp [intOf]; omega
    · have hIi : i = I := by rw [← hI.out, bsF_end (by omega)]
      clear hI hT
      subst hIi
      have u1 : IntKind.i64.wrap ((i : Int) - 1) = ((i - 1 : Nat) : Int) := by rw [IntWalk.i64_in _ (by omega)]; omega
      go_wp2_with fail
      go_loopw [13] (fun kv wr => ∃ (k : Nat) (M' : List Sd), kv = .int .i64 k ∧ a ≤ k ∧ k ≤ i - 1 ∧ SyW w base b n c M' wr ∧ Hid (mvU (i - 1 - k) k M' = mvU (i - 1 - a) a M)) (fun kv _ => i - (intOf kv).toNat)
      case atStart => exact ⟨a, M, rfl, Nat.le_refl _, by omega, K, Lib.hid rfl⟩
      case round =>
        clear K
        rename World => wr
        obtain ⟨k, M', rfl, j1, j2, K, hM⟩ := hrel
        by_cases hlk : k < i - 1
        · obtain ⟨k9, hk9⟩ : ∃ k9, k + 1 = k9 := ⟨_, rfl⟩
          have hM2 := Lib.hid (show mvU (i - 1 - k9) k9 (swL k k9 M') = mvU (i - 1 - a) a M by rw [← hM.out, show i - 1 - k = i - 1 - k9 + 1 by omega, ← hk9]; rfl)
          have v1 : IntKind.i64.wrap ((k : Int) + 1) = (k9 : Int) := by rw [IntWalk.i64_in _ (by omega)]; omega
          obtain ⟨x, hx, cx0, cx1, fx0, fx1⟩ := sd_cells K.o (i := k) (by omega)
          obtain ⟨y, hy, cy0, cy1, fy0, fy1⟩ := sd_cells K.o (i := k9) (by omega)
          have hin : (k : Int) < (n : Int) := by omega
          have hjn : (k9 : Int) < (n : Int) := by omega
          have hin' : k < n := by omega
          have hjn' : k9 < n := by omega
          have hij : k ≠ k9 := by omega
          have hS := Lib.hid (K.put hx hy)
          obtain ⟨xw, xt⟩ := x
          obtain ⟨yw, yt⟩ := y
          dsimp only at *
          clear hM K hx hy
          go_wp2
          go_region
          clear cx0 cx1 fx0 fx1 cy0 cy1 fy0 fy1
          go_wp2
          go_roundw
          case rel => exact ⟨k9, _, by first | rfl | go_num, by omega, by omega, hS.out, hM2⟩
          case measure => simp [intOf]; omega
        · have e : M' = mvU (i - 1 - a) a M := by rw [← hM.out, show i - 1 - k = 0 by omega]; rfl
          go_wp2
          try simp only [Exit.inBlock, Exit.then]
          refine bodyPost_ret (results_none rfl _ _ _) rfl ?_
          exact ⟨rfl, by rw [← e]; exact K⟩
set_option maxHeartbeats 6400000 in
set_option maxRecDepth 100000 in
theorem sym2A_c (base b n c : Nat) (M : List Sd) (a m bb f : Nat) (w W : World) (K : SyW w base b n c M W) (h1 : a + 1 < m) (h2 : m < bb) (h2' : bb < m + 2) (h3 : bb ≤ n) (hn : n ≤ 1000) :
    Calls Tryz.prog 313 #[.slice (some ⟨b, 0, none⟩) n c, .int .i64 a, .int .i64 m, .int .i64 bb, .func (.func 266) #[] #[]] W fun e w' => e = .returned (.tuple #[]) ∧ SyW w base b n c (symF (ltOf sdCf) (f + 1) a m bb M) w' := by
  obtain ⟨T, hT0⟩ : ∃ T : Nat → Bool, (fun h => !ltOf sdCf (M.getD m default) (M.getD h default)) = T := ⟨_, rfl⟩
  have hT := Lib.hid (show ∀ h, T h = !ltOf sdCf (M.getD m default) (M.getD h default) from fun h => by rw [← hT0])
  obtain ⟨I, hI0⟩ : ∃ I, bsF T (m - a) a m = I := ⟨_, rfl⟩
  have hI := Lib.hid hI0
  rw [symF_2 (by omega) (by omega), hT0, hI0]
  clear hT0 hI0
  obtain ⟨dm, hdm⟩ : ∃ dm, m - a = dm := ⟨_, rfl⟩
  have e0 : IntKind.i64.wrap ((m : Int) - (a : Int)) = (dm : Int) := by rw [IntWalk.i64_in _ (by omega)]; omega
  have e1 : ((dm : Int) == 1) = false := beq_eq_false_iff_ne.2 (by omega)
  have e2 : IntKind.i64.wrap ((bb : Int) - (m : Int)) = 1 := by rw [IntWalk.i64_in _ (by omega)]; omega
  go_enter Tryz.func313, Tryz.ntmps313
  go_wp2_with fail
  clear e0 e1 e2 hdm
  go_loopw [14, 15, 16] (fun iv jv _ wr => ∃ (g i j : Nat), iv = .int .i64 i ∧ jv = .int .i64 j ∧ a ≤ i ∧ i ≤ j ∧ j ≤ m ∧ j ≤ i + g ∧ SyW w base b n c M wr ∧ Hid (bsF T g i j = I)) (fun iv jv _ _ => (intOf jv).toNat - (intOf iv).toNat)
  case atStart => exact ⟨m - a, a, m, rfl, rfl, Nat.le_refl _, by omega, Nat.le_refl _, by omega, K, hI⟩
  case round =>
    clear K hI
    rename World => wr
    obtain ⟨g, i, j, rfl, rfl, k1, k2, k3, k4, K, hI⟩ := hrel
    by_cases hlt : i < j
    · obtain ⟨g, rfl⟩ : ∃ q, g = q + 1 := ⟨g - 1, by omega⟩
      obtain ⟨q, hq⟩ : ∃ q, (i + j) / 2 = q := ⟨_, rfl⟩
      obtain ⟨x, hx, p0, p1, _, _⟩ := sd_cells K.o (i := m) (by omega)
      obtain ⟨y, hy, p2, p3, _, _⟩ := sd_cells K.o (i := q) (by omega)
      have hC := Lib.hid (fun V => show Calls Tryz.prog 266 #[.agg (sdE x).toArray, .agg (sdE y).toArray] V fun e w' => e = .returned (.int .i64 (sdCf x y)) ∧ Below V.heap.size V w' ∧ V.drawn ≤ w'.drawn from sdCmpA_c x y V (K.bd x (List.mem_of_getElem? hx)) (K.bd y (List.mem_of_getElem? hy)))
      obtain ⟨V, hV⟩ : ∃ V : Int, sdCf x y = V := ⟨_, rfl⟩
      have hTV : T q = !decide (V < 0) := by
        rw [hT.out, List.getD_eq_getElem?_getD, List.getD_eq_getElem?_getD, hx, hy]; show (!(ltOf sdCf x y)) = _; unfold ltOf; rw [hV]
      rw [hV] at hC
      have m0 : ((i : Int) + (j : Int)) / 2 = (q : Int) := by omega
      have u8 : IntKind.i64.wrap ((q : Int) + 1) = ((q + 1 : Nat) : Int) := by rw [IntWalk.i64_in _ (by omega)]; omega
      have lb : b < wr.heap.size := (K.o.lt b rfl).2
      have n1 : (m : Int) < (n : Int) := by omega
      have n2 : (q : Int) < (n : Int) := by omega
      have n3 : m < n := by omega
      have n4 : q < n := by omega
      obtain ⟨xw, xt⟩ := x
      obtain ⟨yw, yt⟩ := y
      dsimp only [sdE] at *
      clear hx hy hV
      by_cases hv : V < 0
      · have hv1 : decide (V < 0) = true := decide_eq_true hv
        rw [hv1] at hTV
        have hI2 := Lib.hid ((bsF_miss hlt (show T ((i + j) / 2) = false by rw [hq, hTV]; try rfl)).symm.trans hI.out)
        rw [hq] at hI2
        clear hI hTV
        go_wp2_with fail
        go_region_held3 (fun w' => w'.cell? ⟨b, m * 2, none⟩ = some (.string xw) ∧ w'.cell? ⟨b, m * 2 + 1, none⟩ = some (.int .i64 xt) ∧ w'.cell? ⟨b, q * 2, none⟩ = some (.string yw) ∧ w'.cell? ⟨b, q * 2 + 1, none⟩ = some (.int .i64 yt))
          (first | go_keep | with_reducible exact ⟨g0, g1, g2, g3⟩ | with_reducible exact ⟨p0, p1, p2, p3⟩)
          (first | (go_at_call 266; refine (hC.out _).mono ?_; rintro e w8 ⟨rfl, B8, _⟩; have g0 := (B8.cell (p := ⟨b, m * 2, none⟩) lb).trans p0; have g1 := (B8.cell (p := ⟨b, m * 2 + 1, none⟩) lb).trans p1; have g2 := (B8.cell (p := ⟨b, q * 2, none⟩) lb).trans p2; have g3 := (B8.cell (p := ⟨b, q * 2 + 1, none⟩) lb).trans p3))
        have K9 := K.below (below_next (below_drewN (Below.refl _ _) 1) B8)
        clear p0 p1 p2 p3 g0 g1 g2 g3 hC B8 K lb hv
        go_wp2
        go_roundw
        case rel => exact ⟨g, i, q, rfl, by first | rfl | go_num, by omega, by omega, by omega, by omega, K9, hI2⟩
        case measure => simp [intOf]; omega
      · have hv1 : decide (V < 0) = false := decide_eq_false hv
        rw [hv1] at hTV
        have hI2 := Lib.hid ((bsF_hit hlt (show T ((i + j) / 2) = true by rw [hq, hTV]; try rfl)).symm.trans hI.out)
        rw [hq] at hI2
        clear hI hTV
        go_wp2_with fail
        go_region_held3 (fun w' => w'.cell? ⟨b, m * 2, none⟩ = some (.string xw) ∧ w'.cell? ⟨b, m * 2 + 1, none⟩ = some (.int .i64 xt) ∧ w'.cell? ⟨b, q * 2, none⟩ = some (.string yw) ∧ w'.cell? ⟨b, q * 2 + 1, none⟩ = some (.int .i64 yt))
          (first | go_keep | with_reducible exact ⟨g0, g1, g2, g3⟩ | with_reducible exact ⟨p0, p1, p2, p3⟩)
          (first | (go_at_call 266; refine (hC.out _).mono ?_; rintro e w8 ⟨rfl, B8, _⟩; have g0 := (B8.cell (p := ⟨b, m * 2, none⟩) lb).trans p0; have g1 := (B8.cell (p := ⟨b, m * 2 + 1, none⟩) lb).trans p1; have g2 := (B8.cell (p := ⟨b, q * 2, none⟩) lb).trans p2; have g3 := (B8.cell (p := ⟨b, q * 2 + 1, none⟩) lb).trans p3))
        have K9 := K.below (below_next (below_drewN (Below.refl _ _) 1) B8)
        clear p0 p1 p2 p3 g0 g1 g2 g3 hC B8 K lb hv
        go_wp2
        go_roundw
        case rel => exact ⟨g, q + 1, j, by first | rfl | go_num, rfl, by omega, by omega, by omega, by omega, K9, hI2⟩
        case measure => simp [intOf]; omega
    · have hIi : i = I := by rw [← hI.out, bsF_end (by omega)]
      clear hI hT
      subst hIi
      go_wp2_with fail
      go_loopw [17] (fun kv wr => ∃ (k : Nat) (M' : List Sd), kv = .int .i64 k ∧ i ≤ k ∧ k ≤ m ∧ SyW w base b n c M' wr ∧ Hid (mvD (k - i) k M' = mvD (m - i) m M)) (fun kv _ => (intOf kv).toNat - i)
      case atStart => exact ⟨m, M, rfl, by omega, Nat.le_refl _, K, Lib.hid rfl⟩
      case round =>
        clear K
        rename World => wr
        obtain ⟨k, M', rfl, j1, j2, K, hM⟩ := hrel
        by_cases hlk : i < k
        · obtain ⟨k9, hk9⟩ : ∃ k9, k - 1 = k9 := ⟨_, rfl⟩
          have hM2 := Lib.hid (show mvD (k9 - i) k9 (swL k k9 M') = mvD (m - i) m M by rw [← hM.out, show k - i = k9 - i + 1 by omega, ← hk9]; rfl)
          have v1 : IntKind.i64.wrap ((k : Int) - 1) = (k9 : Int) := by rw [IntWalk.i64_in _ (by omega)]; omega
          obtain ⟨x, hx, cx0, cx1, fx0, fx1⟩ := sd_cells K.o (i := k) (by omega)
          obtain ⟨y, hy, cy0, cy1, fy0, fy1⟩ := sd_cells K.o (i := k9) (by omega)
          have hin : (k : Int) < (n : Int) := by omega
          have hjn : (k9 : Int) < (n : Int) := by omega
          have hin' : k < n := by omega
          have hjn' : k9 < n := by omega
          have hij : k ≠ k9 := by omega
          have hS := Lib.hid (K.put hx hy)
          obtain ⟨xw, xt⟩ := x
          obtain ⟨yw, yt⟩ := y
          dsimp only at *
          clear hM K hx hy
          go_wp2
          go_region
          clear cx0 cx1 fx0 fx1 cy0 cy1 fy0 fy1
          go_wp2
          go_roundw
          case rel => exact ⟨k9, _, by first | rfl | go_num, by omega, by omega, hS.out, hM2⟩
          case measure => simp [intOf]; omega
        · have e : M' = mvD (m - i) m M := by rw [← hM.out, show k - i = 0 by omega]; rfl
          go_wp2
          try simp only [Exit.inBlock, Exit.then]
          refine bodyPost_ret (results_none rfl _ _ _) rfl ?_
          exact ⟨rfl, by rw [← e]; exact K⟩
set_option maxHeartbeats 25600000 in
set_option maxRecDepth 100000 in
theorem sym3A_c (base b n c : Nat) (M : List Sd) (a m bb f : Nat) (w W : World) (K : SyW w base b n c M W) (h1 : a + 1 < m) (h2 : m + 1 < bb) (h3 : bb ≤ n) (hn : n ≤ 1000) (hf : bb - a ≤ f + 1) (ih0 : ∀ (a m bb : Nat) (M : List Sd) (W : World), SyW w base b n c M W → a < m → m < bb → bb ≤ n → bb - a ≤ f → Calls Tryz.prog 313 #[.slice (some ⟨b, 0, none⟩) n c, .int .i64 a, .int .i64 m, .int .i64 bb, .func (.func 266) #[] #[]] W fun e w' => e = .returned (.tuple #[]) ∧ SyW w base b n c (symF (ltOf sdCf) f a m bb M) w') :
    Calls Tryz.prog 313 #[.slice (some ⟨b, 0, none⟩) n c, .int .i64 a, .int .i64 m, .int .i64 bb, .func (.func 266) #[] #[]] W fun e w' => e = .returned (.tuple #[]) ∧ SyW w base b n c (symF (ltOf sdCf) (f + 1) a m bb M) w' := by
  have ih := Lib.hid ih0
  clear ih0
  obtain ⟨mid, hmid⟩ : ∃ mid, (a + bb) / 2 = mid := ⟨_, rfl⟩
  obtain ⟨nn, hnn⟩ : ∃ nn, mid + m = nn := ⟨_, rfl⟩
  obtain ⟨lo, hlo⟩ : ∃ lo, (if mid < m then nn - bb else a) = lo := ⟨_, rfl⟩
  obtain ⟨hi, hhi⟩ : ∃ hi, (if mid < m then mid else m) = hi := ⟨_, rfl⟩
  obtain ⟨T, hT0⟩ : ∃ T : Nat → Bool, (fun c => !ltOf sdCf (M.getD (nn - 1 - c) default) (M.getD c default)) = T := ⟨_, rfl⟩
  have hT := Lib.hid (show ∀ h, T h = !ltOf sdCf (M.getD (nn - 1 - h) default) (M.getD h default) from fun h => by rw [← hT0])
  obtain ⟨I, hI0⟩ : ∃ I, bsF T bb lo hi = I := ⟨_, rfl⟩
  have hI := Lib.hid hI0
  obtain ⟨R, hR0⟩ : ∃ R, symF (ltOf sdCf) (f + 1) a m bb M = R := ⟨_, rfl⟩
  have hRes := Lib.hid (show ∀ s, s = I → (if mid < nn - s ∧ nn - s < bb then symF (ltOf sdCf) f mid (nn - s) bb (if a < s ∧ s < mid then symF (ltOf sdCf) f a s mid (if s < m ∧ m < nn - s then rotF (bb + 1) (m - s) (nn - s - m) m M else M) else (if s < m ∧ m < nn - s then rotF (bb + 1) (m - s) (nn - s - m) m M else M)) else (if a < s ∧ s < mid then symF (ltOf sdCf) f a s mid (if s < m ∧ m < nn - s then rotF (bb + 1) (m - s) (nn - s - m) m M else M) else (if s < m ∧ m < nn - s then rotF (bb + 1) (m - s) (nn - s - m) m M else M))) = R from fun s hs => by
    rw [← hR0, symF_3 (by omega) (by omega)]
    dsimp only
    rw [hmid, hnn, hlo, hhi, hT0, hI0, hs])
  rw [hR0]
  have hlh : lo ≤ hi ∧ hi ≤ m ∧ ((mid < m ∧ lo = nn - bb ∧ hi = mid) ∨ (¬ mid < m ∧ lo = a ∧ hi = m)) := by
    by_cases h : mid < m
    · rw [if_pos h] at hlo hhi; omega
    · rw [if_neg h] at hlo hhi; omega
  clear hT0 hI0 hR0 hlo hhi
  obtain ⟨dm, hdm⟩ : ∃ dm, m - a = dm := ⟨_, rfl⟩
  have e0 : IntKind.i64.wrap ((m : Int) - (a : Int)) = (dm : Int) := by rw [IntWalk.i64_in _ (by omega)]; omega
  have e1 : ((dm : Int) == 1) = false := beq_eq_false_iff_ne.2 (by omega)
  obtain ⟨db, hdb⟩ : ∃ db, bb - m = db := ⟨_, rfl⟩
  have e7 : IntKind.i64.wrap ((bb : Int) - (m : Int)) = (db : Int) := by rw [IntWalk.i64_in _ (by omega)]; omega
  have e2 : ((db : Int) == 1) = false := beq_eq_false_iff_ne.2 (by omega)
  have e3 : ((a : Int) + (bb : Int)) / 2 = (mid : Int) := by omega
  have e4 : IntKind.i64.wrap ((mid : Int) + (m : Int)) = (nn : Int) := by rw [IntWalk.i64_in _ (by omega)]; omega
  obtain ⟨pp, hpp⟩ : ∃ pp, nn - 1 = pp := ⟨_, rfl⟩
  have e6 : IntKind.i64.wrap ((nn : Int) - 1) = (pp : Int) := by rw [IntWalk.i64_in _ (by omega)]; omega
  rw [hpp] at hT
  obtain ⟨hl1, hl2, hl3⟩ := hlh
  go_enter Tryz.func313, Tryz.ntmps313
  go_upto_if 140 with (fail)
  go_cut [20, 21] (fun u v wx => u = .int .i64 (lo : Int) ∧ v = .int .i64 (hi : Int) ∧ SyW w base b n c M wx)
  case first =>
    rcases hl3 with ⟨q1, q2, q3⟩ | ⟨q1, q2, q3⟩
    · have e5 : IntKind.i64.wrap ((nn : Int) - (bb : Int)) = (lo : Int) := by rw [IntWalk.i64_in _ (by omega)]; omega
      go_wp2
      go_meet
      case rel => exact ⟨by rw [q2], by rw [q3], K⟩
    · go_wp2
      go_meet
      case rel => exact ⟨by rw [q2], by rw [q3], K⟩
  case rest =>
  clear K e0 e1 e2 e3 e4 e7 hdm hdb
  rename World => wx
  obtain ⟨rfl, rfl, K⟩ := hcut
  go_wp2_with fail
  clear e6
  go_loopw [20, 21, 23] (fun iv jv _ wr => ∃ (g i j : Nat), iv = .int .i64 i ∧ jv = .int .i64 j ∧ lo ≤ i ∧ i ≤ j ∧ j ≤ hi ∧ j ≤ i + g ∧ SyW w base b n c M wr ∧ Hid (bsF T g i j = I)) (fun iv jv _ _ => (intOf jv).toNat - (intOf iv).toNat)
  case atStart => exact ⟨bb, lo, hi, rfl, rfl, Nat.le_refl _, by omega, Nat.le_refl _, by omega, K, hI⟩
  case round =>
    clear K hI
    rename World => wr
    obtain ⟨g, i, j, rfl, rfl, k1, k2, k3, k4, K, hI⟩ := hrel
    by_cases hlt : i < j
    · obtain ⟨g, rfl⟩ : ∃ q, g = q + 1 := ⟨g - 1, by omega⟩
      obtain ⟨q, hq⟩ : ∃ q, (i + j) / 2 = q := ⟨_, rfl⟩
      obtain ⟨r, hr⟩ : ∃ r, pp - q = r := ⟨_, rfl⟩
      have u9 : IntKind.i64.wrap ((pp : Int) - (q : Int)) = (r : Int) := by rw [IntWalk.i64_in _ (by omega)]; omega
      obtain ⟨x, hx, p0, p1, _, _⟩ := sd_cells K.o (i := r) (by omega)
      obtain ⟨y, hy, p2, p3, _, _⟩ := sd_cells K.o (i := q) (by omega)
      have hC := Lib.hid (fun V => show Calls Tryz.prog 266 #[.agg (sdE x).toArray, .agg (sdE y).toArray] V fun e w' => e = .returned (.int .i64 (sdCf x y)) ∧ Below V.heap.size V w' ∧ V.drawn ≤ w'.drawn from sdCmpA_c x y V (K.bd x (List.mem_of_getElem? hx)) (K.bd y (List.mem_of_getElem? hy)))
      obtain ⟨V, hV⟩ : ∃ V : Int, sdCf x y = V := ⟨_, rfl⟩
      have hTV : T q = !decide (V < 0) := by
        rw [hT.out, List.getD_eq_getElem?_getD, List.getD_eq_getElem?_getD, hr, hx, hy]; show (!(ltOf sdCf x y)) = _; unfold ltOf; rw [hV]
      rw [hV] at hC
      have m0 : ((i : Int) + (j : Int)) / 2 = (q : Int) := by omega
      have u8 : IntKind.i64.wrap ((q : Int) + 1) = ((q + 1 : Nat) : Int) := by rw [IntWalk.i64_in _ (by omega)]; omega
      have lb : b < wr.heap.size := (K.o.lt b rfl).2
      have n1 : (r : Int) < (n : Int) := by omega
      have n2 : (q : Int) < (n : Int) := by omega
      have n3 : r < n := by omega
      have n4 : q < n := by omega
      obtain ⟨xw, xt⟩ := x
      obtain ⟨yw, yt⟩ := y
      dsimp only [sdE] at *
      clear hx hy hV
      by_cases hv : V < 0
      · have hv1 : decide (V < 0) = true := decide_eq_true hv
        rw [hv1] at hTV
        have hI2 := Lib.hid ((bsF_miss hlt (show T ((i + j) / 2) = false by rw [hq, hTV]; try rfl)).symm.trans hI.out)
        rw [hq] at hI2
        clear hI hTV
        go_wp2_with fail
        go_region_held3 (fun w' => w'.cell? ⟨b, r * 2, none⟩ = some (.string xw) ∧ w'.cell? ⟨b, r * 2 + 1, none⟩ = some (.int .i64 xt) ∧ w'.cell? ⟨b, q * 2, none⟩ = some (.string yw) ∧ w'.cell? ⟨b, q * 2 + 1, none⟩ = some (.int .i64 yt))
          (first | go_keep | with_reducible exact ⟨g0, g1, g2, g3⟩ | with_reducible exact ⟨p0, p1, p2, p3⟩)
          (first | (go_at_call 266; refine (hC.out _).mono ?_; rintro e w8 ⟨rfl, B8, _⟩; have g0 := (B8.cell (p := ⟨b, r * 2, none⟩) lb).trans p0; have g1 := (B8.cell (p := ⟨b, r * 2 + 1, none⟩) lb).trans p1; have g2 := (B8.cell (p := ⟨b, q * 2, none⟩) lb).trans p2; have g3 := (B8.cell (p := ⟨b, q * 2 + 1, none⟩) lb).trans p3))
        have K9 := K.below (below_next (below_drewN (Below.refl _ _) 1) B8)
        clear p0 p1 p2 p3 g0 g1 g2 g3 hC B8 K lb hv
        go_wp2
        go_roundw
        case rel => exact ⟨g, i, q, rfl, by first | rfl | go_num, by omega, by omega, by omega, by omega, K9, hI2⟩
        case measure => simp [intOf]; omega
      · have hv1 : decide (V < 0) = false := decide_eq_false hv
        rw [hv1] at hTV
        have hI2 := Lib.hid ((bsF_hit hlt (show T ((i + j) / 2) = true by rw [hq, hTV]; try rfl)).symm.trans hI.out)
        rw [hq] at hI2
        clear hI hTV
        go_wp2_with fail
        go_region_held3 (fun w' => w'.cell? ⟨b, r * 2, none⟩ = some (.string xw) ∧ w'.cell? ⟨b, r * 2 + 1, none⟩ = some (.int .i64 xt) ∧ w'.cell? ⟨b, q * 2, none⟩ = some (.string yw) ∧ w'.cell? ⟨b, q * 2 + 1, none⟩ = some (.int .i64 yt))
          (first | go_keep | with_reducible exact ⟨g0, g1, g2, g3⟩ | with_reducible exact ⟨p0, p1, p2, p3⟩)
          (first | (go_at_call 266; refine (hC.out _).mono ?_; rintro e w8 ⟨rfl, B8, _⟩; have g0 := (B8.cell (p := ⟨b, r * 2, none⟩) lb).trans p0; have g1 := (B8.cell (p := ⟨b, r * 2 + 1, none⟩) lb).trans p1; have g2 := (B8.cell (p := ⟨b, q * 2, none⟩) lb).trans p2; have g3 := (B8.cell (p := ⟨b, q * 2 + 1, none⟩) lb).trans p3))
        have K9 := K.below (below_next (below_drewN (Below.refl _ _) 1) B8)
        clear p0 p1 p2 p3 g0 g1 g2 g3 hC B8 K lb hv
        go_wp2
        go_roundw
        case rel => exact ⟨g, q + 1, j, by first | rfl | go_num, rfl, by omega, by omega, by omega, by omega, K9, hI2⟩
        case measure => simp [intOf]; omega
    · have hIi : i = I := by rw [← hI.out, bsF_end (by omega)]
      clear hI hT
      subst hIi
      have u2 : IntKind.i64.wrap ((nn : Int) - (i : Int)) = ((nn - i : Nat) : Int) := by rw [IntWalk.i64_in _ (by omega)]; omega
      obtain ⟨ee, hee⟩ : ∃ ee, nn - i = ee := ⟨_, rfl⟩
      rw [hee] at u2
      have hR := hRes.out i rfl
      rw [hee] at hR
      obtain ⟨l1, hl1⟩ : ∃ l1, (if i < m ∧ m < ee then rotF (bb + 1) (m - i) (ee - m) m M else M) = l1 := ⟨_, rfl⟩
      obtain ⟨l2, hl2⟩ : ∃ l2, (if a < i ∧ i < mid then symF (ltOf sdCf) f a i mid l1 else l1) = l2 := ⟨_, rfl⟩
      obtain ⟨l3, hl3⟩ : ∃ l3, (if mid < ee ∧ ee < bb then symF (ltOf sdCf) f mid ee bb l2 else l2) = l3 := ⟨_, rfl⟩
      rw [hl1, hl2, hl3] at hR
      have hRo := Lib.hid (fun (h8 : i < m) (h9 : m < ee) W (K : SyW w base b n c M W) => show Calls Tryz.prog 350 #[.slice (some ⟨b, 0, none⟩) n c, .int .i64 i, .int .i64 m, .int .i64 ee, .func (.func 266) #[] #[]] W fun e w' => e = .returned (.tuple #[]) ∧ SyW w base b n c l1 w' by
        rw [if_pos ⟨h8, h9⟩] at hl1
        exact (rotate_c base b n c M _ i m ee (bb + 1) W K.o K.bd h8 h9 (by omega) (by omega) hn).mono fun e w' ⟨he, hq⟩ => ⟨he, by rw [← hl1]; exact K.next hq⟩)
      have hLf := Lib.hid (fun (h8 : a < i) (h9 : i < mid) W (K : SyW w base b n c l1 W) => show Calls Tryz.prog 313 #[.slice (some ⟨b, 0, none⟩) n c, .int .i64 a, .int .i64 i, .int .i64 mid, .func (.func 266) #[] #[]] W fun e w' => e = .returned (.tuple #[]) ∧ SyW w base b n c l2 w' by
        rw [if_pos ⟨h8, h9⟩] at hl2
        rw [← hl2]
        exact ih.out a i mid l1 W K h8 h9 (by omega) (by omega))
      have hRi := Lib.hid (fun (h8 : mid < ee) (h9 : ee < bb) W (K : SyW w base b n c l2 W) => show Calls Tryz.prog 313 #[.slice (some ⟨b, 0, none⟩) n c, .int .i64 mid, .int .i64 ee, .int .i64 bb, .func (.func 266) #[] #[]] W fun e w' => e = .returned (.tuple #[]) ∧ SyW w base b n c l3 w' by
        rw [if_pos ⟨h8, h9⟩] at hl3
        rw [← hl3]
        exact ih.out mid ee bb l2 W K h8 h9 h3 (by omega))
      have n1 := Lib.hid (fun (h : ¬ (i < m ∧ m < ee)) => show M = l1 by rw [if_neg h] at hl1; exact hl1)
      have n2 := Lib.hid (fun (h : ¬ (a < i ∧ i < mid)) => show l1 = l2 by rw [if_neg h] at hl2; exact hl2)
      have n3 := Lib.hid (fun (h : ¬ (mid < ee ∧ ee < bb)) => show l2 = l3 by rw [if_neg h] at hl3; exact hl3)
      have hR' := Lib.hid hR
      clear hl1 hl2 hl3 hR hRes ih
      have K1 := K
      have c1 : (i < m ∧ m < ee) ∨ (i < m ∧ ¬ m < ee) ∨ ¬ i < m := by omega
      have c2 : (a < i ∧ i < mid) ∨ (a < i ∧ ¬ i < mid) ∨ ¬ a < i := by omega
      have c3 : (mid < ee ∧ ee < bb) ∨ (mid < ee ∧ ¬ ee < bb) ∨ ¬ mid < ee := by omega
      clear K k1 k2 k3 k4 hl1 hl2 hl3 hpp hnn hmid hf
      rcases c1 with ⟨a1, a2⟩ | ⟨a1, a2⟩ | a1
      · have r1 := Lib.hid (hRo.out a1 a2)
        rcases c2 with ⟨b1, b2⟩ | ⟨b1, b2⟩ | b1
        · have r2 := Lib.hid (hLf.out b1 b2)
          rcases c3 with ⟨d1, d2⟩ | ⟨d1, d2⟩ | d1
          · have r3 := Lib.hid (hRi.out d1 d2)
            clear hRo hLf hRi n1 n2 n3
            go_wp2_with fail
            refine (r1.out _ K1).mono ?_; rintro e wz ⟨rfl, K1⟩
            go_wp2_with fail
            refine (r2.out _ K1).mono ?_; rintro e wz ⟨rfl, K1⟩
            go_wp2_with fail
            refine (r3.out _ K1).mono ?_; rintro e wz ⟨rfl, K1⟩
            go_wp2
            go_end0
            exact ⟨rfl, by rw [← hR'.out]; exact K1⟩
          · obtain rfl := n3.out (fun h => d2 h.2)
            clear hRo hLf hRi n1 n2 n3
            go_wp2_with fail
            refine (r1.out _ K1).mono ?_; rintro e wz ⟨rfl, K1⟩
            go_wp2_with fail
            refine (r2.out _ K1).mono ?_; rintro e wz ⟨rfl, K1⟩
            go_wp2
            go_end0
            exact ⟨rfl, by rw [← hR'.out]; exact K1⟩
          · obtain rfl := n3.out (fun h => d1 h.1)
            clear hRo hLf hRi n1 n2 n3
            go_wp2_with fail
            refine (r1.out _ K1).mono ?_; rintro e wz ⟨rfl, K1⟩
            go_wp2_with fail
            refine (r2.out _ K1).mono ?_; rintro e wz ⟨rfl, K1⟩
            go_wp2
            go_end0
            exact ⟨rfl, by rw [← hR'.out]; exact K1⟩
        · obtain rfl := n2.out (fun h => b2 h.2)
          rcases c3 with ⟨d1, d2⟩ | ⟨d1, d2⟩ | d1
          · have r3 := Lib.hid (hRi.out d1 d2)
            clear hRo hLf hRi n1 n2 n3
            go_wp2_with fail
            refine (r1.out _ K1).mono ?_; rintro e wz ⟨rfl, K1⟩
            go_wp2_with fail
            refine (r3.out _ K1).mono ?_; rintro e wz ⟨rfl, K1⟩
            go_wp2
            go_end0
            exact ⟨rfl, by rw [← hR'.out]; exact K1⟩
          · obtain rfl := n3.out (fun h => d2 h.2)
            clear hRo hLf hRi n1 n2 n3
            go_wp2_with fail
            refine (r1.out _ K1).mono ?_; rintro e wz ⟨rfl, K1⟩
            go_wp2
            go_end0
            exact ⟨rfl, by rw [← hR'.out]; exact K1⟩
          · obtain rfl := n3.out (fun h => d1 h.1)
            clear hRo hLf hRi n1 n2 n3
            go_wp2_with fail
            refine (r1.out _ K1).mono ?_; rintro e wz ⟨rfl, K1⟩
            go_wp2
            go_end0
            exact ⟨rfl, by rw [← hR'.out]; exact K1⟩
        · obtain rfl := n2.out (fun h => b1 h.1)
          rcases c3 with ⟨d1, d2⟩ | ⟨d1, d2⟩ | d1
          · have r3 := Lib.hid (hRi.out d1 d2)
            clear hRo hLf hRi n1 n2 n3
            go_wp2_with fail
            refine (r1.out _ K1).mono ?_; rintro e wz ⟨rfl, K1⟩
            go_wp2_with fail
            refine (r3.out _ K1).mono ?_; rintro e wz ⟨rfl, K1⟩
            go_wp2
            go_end0
            exact ⟨rfl, by rw [← hR'.out]; exact K1⟩
          · obtain rfl := n3.out (fun h => d2 h.2)
            clear hRo hLf hRi n1 n2 n3
            go_wp2_with fail
            refine (r1.out _ K1).mono ?_; rintro e wz ⟨rfl, K1⟩
            go_wp2
            go_end0
            exact ⟨rfl, by rw [← hR'.out]; exact K1⟩
          · obtain rfl := n3.out (fun h => d1 h.1)
            clear hRo hLf hRi n1 n2 n3
            go_wp2_with fail
            refine (r1.out _ K1).mono ?_; rintro e wz ⟨rfl, K1⟩
            go_wp2
            go_end0
            exact ⟨rfl, by rw [← hR'.out]; exact K1⟩
      · obtain rfl := n1.out (fun h => a2 h.2)
        rcases c2 with ⟨b1, b2⟩ | ⟨b1, b2⟩ | b1
        · have r2 := Lib.hid (hLf.out b1 b2)
          rcases c3 with ⟨d1, d2⟩ | ⟨d1, d2⟩ | d1
          · have r3 := Lib.hid (hRi.out d1 d2)
            clear hRo hLf hRi n1 n2 n3
            go_wp2_with fail
            refine (r2.out _ K1).mono ?_; rintro e wz ⟨rfl, K1⟩
            go_wp2_with fail
            refine (r3.out _ K1).mono ?_; rintro e wz ⟨rfl, K1⟩
            go_wp2
            go_end0
            exact ⟨rfl, by rw [← hR'.out]; exact K1⟩
          · obtain rfl := n3.out (fun h => d2 h.2)
            clear hRo hLf hRi n1 n2 n3
            go_wp2_with fail
            refine (r2.out _ K1).mono ?_; rintro e wz ⟨rfl, K1⟩
            go_wp2
            go_end0
            exact ⟨rfl, by rw [← hR'.out]; exact K1⟩
          · obtain rfl := n3.out (fun h => d1 h.1)
            clear hRo hLf hRi n1 n2 n3
            go_wp2_with fail
            refine (r2.out _ K1).mono ?_; rintro e wz ⟨rfl, K1⟩
            go_wp2
            go_end0
            exact ⟨rfl, by rw [← hR'.out]; exact K1⟩
        · obtain rfl := n2.out (fun h => b2 h.2)
          rcases c3 with ⟨d1, d2⟩ | ⟨d1, d2⟩ | d1
          · have r3 := Lib.hid (hRi.out d1 d2)
            clear hRo hLf hRi n1 n2 n3
            go_wp2_with fail
            refine (r3.out _ K1).mono ?_; rintro e wz ⟨rfl, K1⟩
            go_wp2
            go_end0
            exact ⟨rfl, by rw [← hR'.out]; exact K1⟩
          · obtain rfl := n3.out (fun h => d2 h.2)
            clear hRo hLf hRi n1 n2 n3
            go_wp2
            go_end0
            exact ⟨rfl, by rw [← hR'.out]; exact K1⟩
          · obtain rfl := n3.out (fun h => d1 h.1)
            clear hRo hLf hRi n1 n2 n3
            go_wp2
            go_end0
            exact ⟨rfl, by rw [← hR'.out]; exact K1⟩
        · obtain rfl := n2.out (fun h => b1 h.1)
          rcases c3 with ⟨d1, d2⟩ | ⟨d1, d2⟩ | d1
          · have r3 := Lib.hid (hRi.out d1 d2)
            clear hRo hLf hRi n1 n2 n3
            go_wp2_with fail
            refine (r3.out _ K1).mono ?_; rintro e wz ⟨rfl, K1⟩
            go_wp2
            go_end0
            exact ⟨rfl, by rw [← hR'.out]; exact K1⟩
          · obtain rfl := n3.out (fun h => d2 h.2)
            clear hRo hLf hRi n1 n2 n3
            go_wp2
            go_end0
            exact ⟨rfl, by rw [← hR'.out]; exact K1⟩
          · obtain rfl := n3.out (fun h => d1 h.1)
            clear hRo hLf hRi n1 n2 n3
            go_wp2
            go_end0
            exact ⟨rfl, by rw [← hR'.out]; exact K1⟩
      · obtain rfl := n1.out (fun h => a1 h.1)
        rcases c2 with ⟨b1, b2⟩ | ⟨b1, b2⟩ | b1
        · have r2 := Lib.hid (hLf.out b1 b2)
          rcases c3 with ⟨d1, d2⟩ | ⟨d1, d2⟩ | d1
          · have r3 := Lib.hid (hRi.out d1 d2)
            clear hRo hLf hRi n1 n2 n3
            go_wp2_with fail
            refine (r2.out _ K1).mono ?_; rintro e wz ⟨rfl, K1⟩
            go_wp2_with fail
            refine (r3.out _ K1).mono ?_; rintro e wz ⟨rfl, K1⟩
            go_wp2
            go_end0
            exact ⟨rfl, by rw [← hR'.out]; exact K1⟩
          · obtain rfl := n3.out (fun h => d2 h.2)
            clear hRo hLf hRi n1 n2 n3
            go_wp2_with fail
            refine (r2.out _ K1).mono ?_; rintro e wz ⟨rfl, K1⟩
            go_wp2
            go_end0
            exact ⟨rfl, by rw [← hR'.out]; exact K1⟩
          · obtain rfl := n3.out (fun h => d1 h.1)
            clear hRo hLf hRi n1 n2 n3
            go_wp2_with fail
            refine (r2.out _ K1).mono ?_; rintro e wz ⟨rfl, K1⟩
            go_wp2
            go_end0
            exact ⟨rfl, by rw [← hR'.out]; exact K1⟩
        · obtain rfl := n2.out (fun h => b2 h.2)
          rcases c3 with ⟨d1, d2⟩ | ⟨d1, d2⟩ | d1
          · have r3 := Lib.hid (hRi.out d1 d2)
            clear hRo hLf hRi n1 n2 n3
            go_wp2_with fail
            refine (r3.out _ K1).mono ?_; rintro e wz ⟨rfl, K1⟩
            go_wp2
            go_end0
            exact ⟨rfl, by rw [← hR'.out]; exact K1⟩
          · obtain rfl := n3.out (fun h => d2 h.2)
            clear hRo hLf hRi n1 n2 n3
            go_wp2
            go_end0
            exact ⟨rfl, by rw [← hR'.out]; exact K1⟩
          · obtain rfl := n3.out (fun h => d1 h.1)
            clear hRo hLf hRi n1 n2 n3
            go_wp2
            go_end0
            exact ⟨rfl, by rw [← hR'.out]; exact K1⟩
        · obtain rfl := n2.out (fun h => b1 h.1)
          rcases c3 with ⟨d1, d2⟩ | ⟨d1, d2⟩ | d1
          · have r3 := Lib.hid (hRi.out d1 d2)
            clear hRo hLf hRi n1 n2 n3
            go_wp2_with fail
            refine (r3.out _ K1).mono ?_; rintro e wz ⟨rfl, K1⟩
            go_wp2
            go_end0
            exact ⟨rfl, by rw [← hR'.out]; exact K1⟩
          · obtain rfl := n3.out (fun h => d2 h.2)
            clear hRo hLf hRi n1 n2 n3
            go_wp2
            go_end0
            exact ⟨rfl, by rw [← hR'.out]; exact K1⟩
          · obtain rfl := n3.out (fun h => d1 h.1)
            clear hRo hLf hRi n1 n2 n3
            go_wp2
            go_end0
            exact ⟨rfl, by rw [← hR'.out]; exact K1⟩
theorem symMergeA_c (base b n c : Nat) (hn : n ≤ 1000) (w : World) : ∀ (f a m bb : Nat) (M : List Sd) (W : World), SyW w base b n c M W → a < m → m < bb → bb ≤ n → bb - a ≤ f → Calls Tryz.prog 313 #[.slice (some ⟨b, 0, none⟩) n c, .int .i64 a, .int .i64 m, .int .i64 bb, .func (.func 266) #[] #[]] W fun e w' => e = .returned (.tuple #[]) ∧ SyW w base b n c (symF (ltOf sdCf) f a m bb M) w'
  | 0, a, m, bb, M, W, K, h1, h2, h3, h4 => absurd h4 (by omega)
  | f + 1, a, m, bb, M, W, K, h1, h2, h3, h4 => by
    by_cases q1 : m = a + 1
    · exact sym1A_c base b n c M a m bb f w W K h1 (by omega) h2 h3 hn
    · by_cases q2 : bb = m + 1
      · exact sym2A_c base b n c M a m bb f w W K (by omega) h2 (by omega) h3 hn
      · exact sym3A_c base b n c M a m bb f w W K (by omega) (by omega) h3 hn h4 (fun a m bb M W K h1 h2 h3 h4 => symMergeA_c base b n c hn w f a m bb M W K h1 h2 h3 h4)
end Go.Proofs.YtdbfcneeiiialaaGreatDoor

/- slices.symMergeCmpFunc and stableCmpFunc of seeds by tumbref1.OrderOf$1. Printed by wip/mksym.py. -/
namespace Go.Proofs.YtdbfcneeiiialaaGreatDoor
open Go.RowKit Go.Shelf Go.Lib Go.Sort
set_option linter.unusedVariables false

set_option maxHeartbeats 6400000 in
set_option maxRecDepth 100000 in
theorem sym1B_c (base b n c : Nat) (M : List Sd) (a m bb f : Nat) (w W : World) (K : SyW w base b n c M W) (h1 : a < m) (h1' : m < a + 2) (h2 : m < bb) (h3 : bb ≤ n) (hn : n ≤ 1000) :
    Calls Tryz.prog 313 #[.slice (some ⟨b, 0, none⟩) n c, .int .i64 a, .int .i64 m, .int .i64 bb, .func (.func 210) #[] #[]] W fun e w' => e = .returned (.tuple #[]) ∧ SyW w base b n c (symF (ltOf sdCf) (f + 1) a m bb M) w' := by
  obtain ⟨T, hT0⟩ : ∃ T : Nat → Bool, (fun h => ltOf sdCf (M.getD h default) (M.getD a default)) = T := ⟨_, rfl⟩
  have hT := Lib.hid (show ∀ h, T h = ltOf sdCf (M.getD h default) (M.getD a default) from fun h => by rw [← hT0])
  obtain ⟨I, hI0⟩ : ∃ I, bsF T (bb - m) m bb = I := ⟨_, rfl⟩
  have hI := Lib.hid hI0
  rw [symF_1 (by omega), hT0, hI0]
  clear hT0 hI0
  have e1 : IntKind.i64.wrap ((m : Int) - (a : Int)) = 1 := by rw [IntWalk.i64_in _ (by omega)]; omega
  go_enter Tryz.func313, Tryz.ntmps313
  go_wp2_with fail
  clear e1
  go_loopw [10, 11, 12] (fun iv jv _ wr => ∃ (g i j : Nat), iv = .int .i64 i ∧ jv = .int .i64 j ∧ m ≤ i ∧ i ≤ j ∧ j ≤ bb ∧ j ≤ i + g ∧ SyW w base b n c M wr ∧ Hid (bsF T g i j = I)) (fun iv jv _ _ => (intOf jv).toNat - (intOf iv).toNat)
  case atStart => exact ⟨bb - m, m, bb, rfl, rfl, Nat.le_refl _, by omega, Nat.le_refl _, by omega, K, hI⟩
  case round =>
    clear K hI
    rename World => wr
    obtain ⟨g, i, j, rfl, rfl, k1, k2, k3, k4, K, hI⟩ := hrel
    by_cases hlt : i < j
    · obtain ⟨g, rfl⟩ : ∃ q, g = q + 1 := ⟨g - 1, by omega⟩
      obtain ⟨q, hq⟩ : ∃ q, (i + j) / 2 = q := ⟨_, rfl⟩
      obtain ⟨x, hx, p0, p1, _, _⟩ := sd_cells K.o (i := q) (by omega)
      obtain ⟨y, hy, p2, p3, _, _⟩ := sd_cells K.o (i := a) (by omega)
      have hC := Lib.hid (fun V => show Calls Tryz.prog 210 #[.agg (sdE x).toArray, .agg (sdE y).toArray] V fun e w' => e = .returned (.int .i64 (sdCf x y)) ∧ Below V.heap.size V w' ∧ V.drawn ≤ w'.drawn from sdCmpB_c x y V (K.bd x (List.mem_of_getElem? hx)) (K.bd y (List.mem_of_getElem? hy)))
      obtain ⟨V, hV⟩ : ∃ V : Int, sdCf x y = V := ⟨_, rfl⟩
      have hTV : T q = decide (V < 0) := by
        rw [hT.out, List.getD_eq_getElem?_getD, List.getD_eq_getElem?_getD, hx, hy]; show ((ltOf sdCf x y)) = _; unfold ltOf; rw [hV]
      rw [hV] at hC
      have m0 : ((i : Int) + (j : Int)) / 2 = (q : Int) := by omega
      have u8 : IntKind.i64.wrap ((q : Int) + 1) = ((q + 1 : Nat) : Int) := by rw [IntWalk.i64_in _ (by omega)]; omega
      have lb : b < wr.heap.size := (K.o.lt b rfl).2
      have n1 : (q : Int) < (n : Int) := by omega
      have n2 : (a : Int) < (n : Int) := by omega
      have n3 : q < n := by omega
      have n4 : a < n := by omega
      obtain ⟨xw, xt⟩ := x
      obtain ⟨yw, yt⟩ := y
      dsimp only [sdE] at *
      clear hx hy hV
      by_cases hv : V < 0
      · have hv1 : decide (V < 0) = true := decide_eq_true hv
        rw [hv1] at hTV
        have hI2 := Lib.hid ((bsF_hit hlt (show T ((i + j) / 2) = true by rw [hq, hTV]; try rfl)).symm.trans hI.out)
        rw [hq] at hI2
        clear hI hTV
        go_wp2_with fail
        go_region_held3 (fun w' => w'.cell? ⟨b, q * 2, none⟩ = some (.string xw) ∧ w'.cell? ⟨b, q * 2 + 1, none⟩ = some (.int .i64 xt) ∧ w'.cell? ⟨b, a * 2, none⟩ = some (.string yw) ∧ w'.cell? ⟨b, a * 2 + 1, none⟩ = some (.int .i64 yt))
          (first | go_keep | with_reducible exact ⟨g0, g1, g2, g3⟩ | with_reducible exact ⟨p0, p1, p2, p3⟩)
          (first | (go_at_call 210; refine (hC.out _).mono ?_; rintro e w8 ⟨rfl, B8, _⟩; have g0 := (B8.cell (p := ⟨b, q * 2, none⟩) lb).trans p0; have g1 := (B8.cell (p := ⟨b, q * 2 + 1, none⟩) lb).trans p1; have g2 := (B8.cell (p := ⟨b, a * 2, none⟩) lb).trans p2; have g3 := (B8.cell (p := ⟨b, a * 2 + 1, none⟩) lb).trans p3))
        have K9 := K.below (below_next (below_drewN (Below.refl _ _) 1) B8)
        clear p0 p1 p2 p3 g0 g1 g2 g3 hC B8 K lb hv
        go_wp2
        go_roundw
        case rel => exact ⟨g, q + 1, j, by first | rfl | go_num, rfl, by omega, by omega, by omega, by omega, K9, hI2⟩
        case measure => simp [intOf]; omega
      · have hv1 : decide (V < 0) = false := decide_eq_false hv
        rw [hv1] at hTV
        have hI2 := Lib.hid ((bsF_miss hlt (show T ((i + j) / 2) = false by rw [hq, hTV]; try rfl)).symm.trans hI.out)
        rw [hq] at hI2
        clear hI hTV
        go_wp2_with fail
        go_region_held3 (fun w' => w'.cell? ⟨b, q * 2, none⟩ = some (.string xw) ∧ w'.cell? ⟨b, q * 2 + 1, none⟩ = some (.int .i64 xt) ∧ w'.cell? ⟨b, a * 2, none⟩ = some (.string yw) ∧ w'.cell? ⟨b, a * 2 + 1, none⟩ = some (.int .i64 yt))
          (first | go_keep | with_reducible exact ⟨g0, g1, g2, g3⟩ | with_reducible exact ⟨p0, p1, p2, p3⟩)
          (first | (go_at_call 210; refine (hC.out _).mono ?_; rintro e w8 ⟨rfl, B8, _⟩; have g0 := (B8.cell (p := ⟨b, q * 2, none⟩) lb).trans p0; have g1 := (B8.cell (p := ⟨b, q * 2 + 1, none⟩) lb).trans p1; have g2 := (B8.cell (p := ⟨b, a * 2, none⟩) lb).trans p2; have g3 := (B8.cell (p := ⟨b, a * 2 + 1, none⟩) lb).trans p3))
        have K9 := K.below (below_next (below_drewN (Below.refl _ _) 1) B8)
        clear p0 p1 p2 p3 g0 g1 g2 g3 hC B8 K lb hv
        go_wp2
        go_roundw
        case rel => exact ⟨g, i, q, rfl, by first | rfl | go_num, by omega, by omega, by omega, by omega, K9, hI2⟩
        case measure => simp [intOf]; omega
    · have hIi : i = I := by rw [← hI.out, bsF_end (by omega)]
      clear hI hT
      subst hIi
      have u1 : IntKind.i64.wrap ((i : Int) - 1) = ((i - 1 : Nat) : Int) := by rw [IntWalk.i64_in _ (by omega)]; omega
      go_wp2_with fail
      go_loopw [13] (fun kv wr => ∃ (k : Nat) (M' : List Sd), kv = .int .i64 k ∧ a ≤ k ∧ k ≤ i - 1 ∧ SyW w base b n c M' wr ∧ Hid (mvU (i - 1 - k) k M' = mvU (i - 1 - a) a M)) (fun kv _ => i - (intOf kv).toNat)
      case atStart => exact ⟨a, M, rfl, Nat.le_refl _, by omega, K, Lib.hid rfl⟩
      case round =>
        clear K
        rename World => wr
        obtain ⟨k, M', rfl, j1, j2, K, hM⟩ := hrel
        by_cases hlk : k < i - 1
        · obtain ⟨k9, hk9⟩ : ∃ k9, k + 1 = k9 := ⟨_, rfl⟩
          have hM2 := Lib.hid (show mvU (i - 1 - k9) k9 (swL k k9 M') = mvU (i - 1 - a) a M by rw [← hM.out, show i - 1 - k = i - 1 - k9 + 1 by omega, ← hk9]; rfl)
          have v1 : IntKind.i64.wrap ((k : Int) + 1) = (k9 : Int) := by rw [IntWalk.i64_in _ (by omega)]; omega
          obtain ⟨x, hx, cx0, cx1, fx0, fx1⟩ := sd_cells K.o (i := k) (by omega)
          obtain ⟨y, hy, cy0, cy1, fy0, fy1⟩ := sd_cells K.o (i := k9) (by omega)
          have hin : (k : Int) < (n : Int) := by omega
          have hjn : (k9 : Int) < (n : Int) := by omega
          have hin' : k < n := by omega
          have hjn' : k9 < n := by omega
          have hij : k ≠ k9 := by omega
          have hS := Lib.hid (K.put hx hy)
          obtain ⟨xw, xt⟩ := x
          obtain ⟨yw, yt⟩ := y
          dsimp only at *
          clear hM K hx hy
          go_wp2
          go_region
          clear cx0 cx1 fx0 fx1 cy0 cy1 fy0 fy1
          go_wp2
          go_roundw
          case rel => exact ⟨k9, _, by first | rfl | go_num, by omega, by omega, hS.out, hM2⟩
          case measure => simp [intOf]; omega
        · have e : M' = mvU (i - 1 - a) a M := by rw [← hM.out, show i - 1 - k = 0 by omega]; rfl
          go_wp2
          try simp only [Exit.inBlock, Exit.then]
          refine bodyPost_ret (results_none rfl _ _ _) rfl ?_
          exact ⟨rfl, by rw [← e]; exact K⟩
set_option maxHeartbeats 6400000 in
set_option maxRecDepth 100000 in
theorem sym2B_c (base b n c : Nat) (M : List Sd) (a m bb f : Nat) (w W : World) (K : SyW w base b n c M W) (h1 : a + 1 < m) (h2 : m < bb) (h2' : bb < m + 2) (h3 : bb ≤ n) (hn : n ≤ 1000) :
    Calls Tryz.prog 313 #[.slice (some ⟨b, 0, none⟩) n c, .int .i64 a, .int .i64 m, .int .i64 bb, .func (.func 210) #[] #[]] W fun e w' => e = .returned (.tuple #[]) ∧ SyW w base b n c (symF (ltOf sdCf) (f + 1) a m bb M) w' := by
  obtain ⟨T, hT0⟩ : ∃ T : Nat → Bool, (fun h => !ltOf sdCf (M.getD m default) (M.getD h default)) = T := ⟨_, rfl⟩
  have hT := Lib.hid (show ∀ h, T h = !ltOf sdCf (M.getD m default) (M.getD h default) from fun h => by rw [← hT0])
  obtain ⟨I, hI0⟩ : ∃ I, bsF T (m - a) a m = I := ⟨_, rfl⟩
  have hI := Lib.hid hI0
  rw [symF_2 (by omega) (by omega), hT0, hI0]
  clear hT0 hI0
  obtain ⟨dm, hdm⟩ : ∃ dm, m - a = dm := ⟨_, rfl⟩
  have e0 : IntKind.i64.wrap ((m : Int) - (a : Int)) = (dm : Int) := by rw [IntWalk.i64_in _ (by omega)]; omega
  have e1 : ((dm : Int) == 1) = false := beq_eq_false_iff_ne.2 (by omega)
  have e2 : IntKind.i64.wrap ((bb : Int) - (m : Int)) = 1 := by rw [IntWalk.i64_in _ (by omega)]; omega
  go_enter Tryz.func313, Tryz.ntmps313
  go_wp2_with fail
  clear e0 e1 e2 hdm
  go_loopw [14, 15, 16] (fun iv jv _ wr => ∃ (g i j : Nat), iv = .int .i64 i ∧ jv = .int .i64 j ∧ a ≤ i ∧ i ≤ j ∧ j ≤ m ∧ j ≤ i + g ∧ SyW w base b n c M wr ∧ Hid (bsF T g i j = I)) (fun iv jv _ _ => (intOf jv).toNat - (intOf iv).toNat)
  case atStart => exact ⟨m - a, a, m, rfl, rfl, Nat.le_refl _, by omega, Nat.le_refl _, by omega, K, hI⟩
  case round =>
    clear K hI
    rename World => wr
    obtain ⟨g, i, j, rfl, rfl, k1, k2, k3, k4, K, hI⟩ := hrel
    by_cases hlt : i < j
    · obtain ⟨g, rfl⟩ : ∃ q, g = q + 1 := ⟨g - 1, by omega⟩
      obtain ⟨q, hq⟩ : ∃ q, (i + j) / 2 = q := ⟨_, rfl⟩
      obtain ⟨x, hx, p0, p1, _, _⟩ := sd_cells K.o (i := m) (by omega)
      obtain ⟨y, hy, p2, p3, _, _⟩ := sd_cells K.o (i := q) (by omega)
      have hC := Lib.hid (fun V => show Calls Tryz.prog 210 #[.agg (sdE x).toArray, .agg (sdE y).toArray] V fun e w' => e = .returned (.int .i64 (sdCf x y)) ∧ Below V.heap.size V w' ∧ V.drawn ≤ w'.drawn from sdCmpB_c x y V (K.bd x (List.mem_of_getElem? hx)) (K.bd y (List.mem_of_getElem? hy)))
      obtain ⟨V, hV⟩ : ∃ V : Int, sdCf x y = V := ⟨_, rfl⟩
      have hTV : T q = !decide (V < 0) := by
        rw [hT.out, List.getD_eq_getElem?_getD, List.getD_eq_getElem?_getD, hx, hy]; show (!(ltOf sdCf x y)) = _; unfold ltOf; rw [hV]
      rw [hV] at hC
      have m0 : ((i : Int) + (j : Int)) / 2 = (q : Int) := by omega
      have u8 : IntKind.i64.wrap ((q : Int) + 1) = ((q + 1 : Nat) : Int) := by rw [IntWalk.i64_in _ (by omega)]; omega
      have lb : b < wr.heap.size := (K.o.lt b rfl).2
      have n1 : (m : Int) < (n : Int) := by omega
      have n2 : (q : Int) < (n : Int) := by omega
      have n3 : m < n := by omega
      have n4 : q < n := by omega
      obtain ⟨xw, xt⟩ := x
      obtain ⟨yw, yt⟩ := y
      dsimp only [sdE] at *
      clear hx hy hV
      by_cases hv : V < 0
      · have hv1 : decide (V < 0) = true := decide_eq_true hv
        rw [hv1] at hTV
        have hI2 := Lib.hid ((bsF_miss hlt (show T ((i + j) / 2) = false by rw [hq, hTV]; try rfl)).symm.trans hI.out)
        rw [hq] at hI2
        clear hI hTV
        go_wp2_with fail
        go_region_held3 (fun w' => w'.cell? ⟨b, m * 2, none⟩ = some (.string xw) ∧ w'.cell? ⟨b, m * 2 + 1, none⟩ = some (.int .i64 xt) ∧ w'.cell? ⟨b, q * 2, none⟩ = some (.string yw) ∧ w'.cell? ⟨b, q * 2 + 1, none⟩ = some (.int .i64 yt))
          (first | go_keep | with_reducible exact ⟨g0, g1, g2, g3⟩ | with_reducible exact ⟨p0, p1, p2, p3⟩)
          (first | (go_at_call 210; refine (hC.out _).mono ?_; rintro e w8 ⟨rfl, B8, _⟩; have g0 := (B8.cell (p := ⟨b, m * 2, none⟩) lb).trans p0; have g1 := (B8.cell (p := ⟨b, m * 2 + 1, none⟩) lb).trans p1; have g2 := (B8.cell (p := ⟨b, q * 2, none⟩) lb).trans p2; have g3 := (B8.cell (p := ⟨b, q * 2 + 1, none⟩) lb).trans p3))
        have K9 := K.below (below_next (below_drewN (Below.refl _ _) 1) B8)
        clear p0 p1 p2 p3 g0 g1 g2 g3 hC B8 K lb hv
        go_wp2
        go_roundw
        case rel => exact ⟨g, i, q, rfl, by first | rfl | go_num, by omega, by omega, by omega, by omega, K9, hI2⟩
        case measure => simp [intOf]; omega
      · have hv1 : decide (V < 0) = false := decide_eq_false hv
        rw [hv1] at hTV
        have hI2 := Lib.hid ((bsF_hit hlt (show T ((i + j) / 2) = true by rw [hq, hTV]; try rfl)).symm.trans hI.out)
        rw [hq] at hI2
        clear hI hTV
        go_wp2_with fail
        go_region_held3 (fun w' => w'.cell? ⟨b, m * 2, none⟩ = some (.string xw) ∧ w'.cell? ⟨b, m * 2 + 1, none⟩ = some (.int .i64 xt) ∧ w'.cell? ⟨b, q * 2, none⟩ = some (.string yw) ∧ w'.cell? ⟨b, q * 2 + 1, none⟩ = some (.int .i64 yt))
          (first | go_keep | with_reducible exact ⟨g0, g1, g2, g3⟩ | with_reducible exact ⟨p0, p1, p2, p3⟩)
          (first | (go_at_call 210; refine (hC.out _).mono ?_; rintro e w8 ⟨rfl, B8, _⟩; have g0 := (B8.cell (p := ⟨b, m * 2, none⟩) lb).trans p0; have g1 := (B8.cell (p := ⟨b, m * 2 + 1, none⟩) lb).trans p1; have g2 := (B8.cell (p := ⟨b, q * 2, none⟩) lb).trans p2; have g3 := (B8.cell (p := ⟨b, q * 2 + 1, none⟩) lb).trans p3))
        have K9 := K.below (below_next (below_drewN (Below.refl _ _) 1) B8)
        clear p0 p1 p2 p3 g0 g1 g2 g3 hC B8 K lb hv
        go_wp2
        go_roundw
        case rel => exact ⟨g, q + 1, j, by first | rfl | go_num, rfl, by omega, by omega, by omega, by omega, K9, hI2⟩
        case measure => simp [intOf]; omega
    · have hIi : i = I := by rw [← hI.out, bsF_end (by omega)]
      clear hI hT
      subst hIi
      go_wp2_with fail
      go_loopw [17] (fun kv wr => ∃ (k : Nat) (M' : List Sd), kv = .int .i64 k ∧ i ≤ k ∧ k ≤ m ∧ SyW w base b n c M' wr ∧ Hid (mvD (k - i) k M' = mvD (m - i) m M)) (fun kv _ => (intOf kv).toNat - i)
      case atStart => exact ⟨m, M, rfl, by omega, Nat.le_refl _, K, Lib.hid rfl⟩
      case round =>
        clear K
        rename World => wr
        obtain ⟨k, M', rfl, j1, j2, K, hM⟩ := hrel
        by_cases hlk : i < k
        · obtain ⟨k9, hk9⟩ : ∃ k9, k - 1 = k9 := ⟨_, rfl⟩
          have hM2 := Lib.hid (show mvD (k9 - i) k9 (swL k k9 M') = mvD (m - i) m M by rw [← hM.out, show k - i = k9 - i + 1 by omega, ← hk9]; rfl)
          have v1 : IntKind.i64.wrap ((k : Int) - 1) = (k9 : Int) := by rw [IntWalk.i64_in _ (by omega)]; omega
          obtain ⟨x, hx, cx0, cx1, fx0, fx1⟩ := sd_cells K.o (i := k) (by omega)
          obtain ⟨y, hy, cy0, cy1, fy0, fy1⟩ := sd_cells K.o (i := k9) (by omega)
          have hin : (k : Int) < (n : Int) := by omega
          have hjn : (k9 : Int) < (n : Int) := by omega
          have hin' : k < n := by omega
          have hjn' : k9 < n := by omega
          have hij : k ≠ k9 := by omega
          have hS := Lib.hid (K.put hx hy)
          obtain ⟨xw, xt⟩ := x
          obtain ⟨yw, yt⟩ := y
          dsimp only at *
          clear hM K hx hy
          go_wp2
          go_region
          clear cx0 cx1 fx0 fx1 cy0 cy1 fy0 fy1
          go_wp2
          go_roundw
          case rel => exact ⟨k9, _, by first | rfl | go_num, by omega, by omega, hS.out, hM2⟩
          case measure => simp [intOf]; omega
        · have e : M' = mvD (m - i) m M := by rw [← hM.out, show k - i = 0 by omega]; rfl
          go_wp2
          try simp only [Exit.inBlock, Exit.then]
          refine bodyPost_ret (results_none rfl _ _ _) rfl ?_
          exact ⟨rfl, by rw [← e]; exact K⟩
set_option maxHeartbeats 25600000 in
set_option maxRecDepth 100000 in
theorem sym3B_c (base b n c : Nat) (M : List Sd) (a m bb f : Nat) (w W : World) (K : SyW w base b n c M W) (h1 : a + 1 < m) (h2 : m + 1 < bb) (h3 : bb ≤ n) (hn : n ≤ 1000) (hf : bb - a ≤ f + 1) (ih0 : ∀ (a m bb : Nat) (M : List Sd) (W : World), SyW w base b n c M W → a < m → m < bb → bb ≤ n → bb - a ≤ f → Calls Tryz.prog 313 #[.slice (some ⟨b, 0, none⟩) n c, .int .i64 a, .int .i64 m, .int .i64 bb, .func (.func 210) #[] #[]] W fun e w' => e = .returned (.tuple #[]) ∧ SyW w base b n c (symF (ltOf sdCf) f a m bb M) w') :
    Calls Tryz.prog 313 #[.slice (some ⟨b, 0, none⟩) n c, .int .i64 a, .int .i64 m, .int .i64 bb, .func (.func 210) #[] #[]] W fun e w' => e = .returned (.tuple #[]) ∧ SyW w base b n c (symF (ltOf sdCf) (f + 1) a m bb M) w' := by
  have ih := Lib.hid ih0
  clear ih0
  obtain ⟨mid, hmid⟩ : ∃ mid, (a + bb) / 2 = mid := ⟨_, rfl⟩
  obtain ⟨nn, hnn⟩ : ∃ nn, mid + m = nn := ⟨_, rfl⟩
  obtain ⟨lo, hlo⟩ : ∃ lo, (if mid < m then nn - bb else a) = lo := ⟨_, rfl⟩
  obtain ⟨hi, hhi⟩ : ∃ hi, (if mid < m then mid else m) = hi := ⟨_, rfl⟩
  obtain ⟨T, hT0⟩ : ∃ T : Nat → Bool, (fun c => !ltOf sdCf (M.getD (nn - 1 - c) default) (M.getD c default)) = T := ⟨_, rfl⟩
  have hT := Lib.hid (show ∀ h, T h = !ltOf sdCf (M.getD (nn - 1 - h) default) (M.getD h default) from fun h => by rw [← hT0])
  obtain ⟨I, hI0⟩ : ∃ I, bsF T bb lo hi = I := ⟨_, rfl⟩
  have hI := Lib.hid hI0
  obtain ⟨R, hR0⟩ : ∃ R, symF (ltOf sdCf) (f + 1) a m bb M = R := ⟨_, rfl⟩
  have hRes := Lib.hid (show ∀ s, s = I → (if mid < nn - s ∧ nn - s < bb then symF (ltOf sdCf) f mid (nn - s) bb (if a < s ∧ s < mid then symF (ltOf sdCf) f a s mid (if s < m ∧ m < nn - s then rotF (bb + 1) (m - s) (nn - s - m) m M else M) else (if s < m ∧ m < nn - s then rotF (bb + 1) (m - s) (nn - s - m) m M else M)) else (if a < s ∧ s < mid then symF (ltOf sdCf) f a s mid (if s < m ∧ m < nn - s then rotF (bb + 1) (m - s) (nn - s - m) m M else M) else (if s < m ∧ m < nn - s then rotF (bb + 1) (m - s) (nn - s - m) m M else M))) = R from fun s hs => by
    rw [← hR0, symF_3 (by omega) (by omega)]
    dsimp only
    rw [hmid, hnn, hlo, hhi, hT0, hI0, hs])
  rw [hR0]
  have hlh : lo ≤ hi ∧ hi ≤ m ∧ ((mid < m ∧ lo = nn - bb ∧ hi = mid) ∨ (¬ mid < m ∧ lo = a ∧ hi = m)) := by
    by_cases h : mid < m
    · rw [if_pos h] at hlo hhi; omega
    · rw [if_neg h] at hlo hhi; omega
  clear hT0 hI0 hR0 hlo hhi
  obtain ⟨dm, hdm⟩ : ∃ dm, m - a = dm := ⟨_, rfl⟩
  have e0 : IntKind.i64.wrap ((m : Int) - (a : Int)) = (dm : Int) := by rw [IntWalk.i64_in _ (by omega)]; omega
  have e1 : ((dm : Int) == 1) = false := beq_eq_false_iff_ne.2 (by omega)
  obtain ⟨db, hdb⟩ : ∃ db, bb - m = db := ⟨_, rfl⟩
  have e7 : IntKind.i64.wrap ((bb : Int) - (m : Int)) = (db : Int) := by rw [IntWalk.i64_in _ (by omega)]; omega
  have e2 : ((db : Int) == 1) = false := beq_eq_false_iff_ne.2 (by omega)
  have e3 : ((a : Int) + (bb : Int)) / 2 = (mid : Int) := by omega
  have e4 : IntKind.i64.wrap ((mid : Int) + (m : Int)) = (nn : Int) := by rw [IntWalk.i64_in _ (by omega)]; omega
  obtain ⟨pp, hpp⟩ : ∃ pp, nn - 1 = pp := ⟨_, rfl⟩
  have e6 : IntKind.i64.wrap ((nn : Int) - 1) = (pp : Int) := by rw [IntWalk.i64_in _ (by omega)]; omega
  rw [hpp] at hT
  obtain ⟨hl1, hl2, hl3⟩ := hlh
  go_enter Tryz.func313, Tryz.ntmps313
  go_upto_if 140 with (fail)
  go_cut [20, 21] (fun u v wx => u = .int .i64 (lo : Int) ∧ v = .int .i64 (hi : Int) ∧ SyW w base b n c M wx)
  case first =>
    rcases hl3 with ⟨q1, q2, q3⟩ | ⟨q1, q2, q3⟩
    · have e5 : IntKind.i64.wrap ((nn : Int) - (bb : Int)) = (lo : Int) := by rw [IntWalk.i64_in _ (by omega)]; omega
      go_wp2
      go_meet
      case rel => exact ⟨by rw [q2], by rw [q3], K⟩
    · go_wp2
      go_meet
      case rel => exact ⟨by rw [q2], by rw [q3], K⟩
  case rest =>
  clear K e0 e1 e2 e3 e4 e7 hdm hdb
  rename World => wx
  obtain ⟨rfl, rfl, K⟩ := hcut
  go_wp2_with fail
  clear e6
  go_loopw [20, 21, 23] (fun iv jv _ wr => ∃ (g i j : Nat), iv = .int .i64 i ∧ jv = .int .i64 j ∧ lo ≤ i ∧ i ≤ j ∧ j ≤ hi ∧ j ≤ i + g ∧ SyW w base b n c M wr ∧ Hid (bsF T g i j = I)) (fun iv jv _ _ => (intOf jv).toNat - (intOf iv).toNat)
  case atStart => exact ⟨bb, lo, hi, rfl, rfl, Nat.le_refl _, by omega, Nat.le_refl _, by omega, K, hI⟩
  case round =>
    clear K hI
    rename World => wr
    obtain ⟨g, i, j, rfl, rfl, k1, k2, k3, k4, K, hI⟩ := hrel
    by_cases hlt : i < j
    · obtain ⟨g, rfl⟩ : ∃ q, g = q + 1 := ⟨g - 1, by omega⟩
      obtain ⟨q, hq⟩ : ∃ q, (i + j) / 2 = q := ⟨_, rfl⟩
      obtain ⟨r, hr⟩ : ∃ r, pp - q = r := ⟨_, rfl⟩
      have u9 : IntKind.i64.wrap ((pp : Int) - (q : Int)) = (r : Int) := by rw [IntWalk.i64_in _ (by omega)]; omega
      obtain ⟨x, hx, p0, p1, _, _⟩ := sd_cells K.o (i := r) (by omega)
      obtain ⟨y, hy, p2, p3, _, _⟩ := sd_cells K.o (i := q) (by omega)
      have hC := Lib.hid (fun V => show Calls Tryz.prog 210 #[.agg (sdE x).toArray, .agg (sdE y).toArray] V fun e w' => e = .returned (.int .i64 (sdCf x y)) ∧ Below V.heap.size V w' ∧ V.drawn ≤ w'.drawn from sdCmpB_c x y V (K.bd x (List.mem_of_getElem? hx)) (K.bd y (List.mem_of_getElem? hy)))
      obtain ⟨V, hV⟩ : ∃ V : Int, sdCf x y = V := ⟨_, rfl⟩
      have hTV : T q = !decide (V < 0) := by
        rw [hT.out, List.getD_eq_getElem?_getD, List.getD_eq_getElem?_getD, hr, hx, hy]; show (!(ltOf sdCf x y)) = _; unfold ltOf; rw [hV]
      rw [hV] at hC
      have m0 : ((i : Int) + (j : Int)) / 2 = (q : Int) := by omega
      have u8 : IntKind.i64.wrap ((q : Int) + 1) = ((q + 1 : Nat) : Int) := by rw [IntWalk.i64_in _ (by omega)]; omega
      have lb : b < wr.heap.size := (K.o.lt b rfl).2
      have n1 : (r : Int) < (n : Int) := by omega
      have n2 : (q : Int) < (n : Int) := by omega
      have n3 : r < n := by omega
      have n4 : q < n := by omega
      obtain ⟨xw, xt⟩ := x
      obtain ⟨yw, yt⟩ := y
      dsimp only [sdE] at *
      clear hx hy hV
      by_cases hv : V < 0
      · have hv1 : decide (V < 0) = true := decide_eq_true hv
        rw [hv1] at hTV
        have hI2 := Lib.hid ((bsF_miss hlt (show T ((i + j) / 2) = false by rw [hq, hTV]; try rfl)).symm.trans hI.out)
        rw [hq] at hI2
        clear hI hTV
        go_wp2_with fail
        go_region_held3 (fun w' => w'.cell? ⟨b, r * 2, none⟩ = some (.string xw) ∧ w'.cell? ⟨b, r * 2 + 1, none⟩ = some (.int .i64 xt) ∧ w'.cell? ⟨b, q * 2, none⟩ = some (.string yw) ∧ w'.cell? ⟨b, q * 2 + 1, none⟩ = some (.int .i64 yt))
          (first | go_keep | with_reducible exact ⟨g0, g1, g2, g3⟩ | with_reducible exact ⟨p0, p1, p2, p3⟩)
          (first | (go_at_call 210; refine (hC.out _).mono ?_; rintro e w8 ⟨rfl, B8, _⟩; have g0 := (B8.cell (p := ⟨b, r * 2, none⟩) lb).trans p0; have g1 := (B8.cell (p := ⟨b, r * 2 + 1, none⟩) lb).trans p1; have g2 := (B8.cell (p := ⟨b, q * 2, none⟩) lb).trans p2; have g3 := (B8.cell (p := ⟨b, q * 2 + 1, none⟩) lb).trans p3))
        have K9 := K.below (below_next (below_drewN (Below.refl _ _) 1) B8)
        clear p0 p1 p2 p3 g0 g1 g2 g3 hC B8 K lb hv
        go_wp2
        go_roundw
        case rel => exact ⟨g, i, q, rfl, by first | rfl | go_num, by omega, by omega, by omega, by omega, K9, hI2⟩
        case measure => simp [intOf]; omega
      · have hv1 : decide (V < 0) = false := decide_eq_false hv
        rw [hv1] at hTV
        have hI2 := Lib.hid ((bsF_hit hlt (show T ((i + j) / 2) = true by rw [hq, hTV]; try rfl)).symm.trans hI.out)
        rw [hq] at hI2
        clear hI hTV
        go_wp2_with fail
        go_region_held3 (fun w' => w'.cell? ⟨b, r * 2, none⟩ = some (.string xw) ∧ w'.cell? ⟨b, r * 2 + 1, none⟩ = some (.int .i64 xt) ∧ w'.cell? ⟨b, q * 2, none⟩ = some (.string yw) ∧ w'.cell? ⟨b, q * 2 + 1, none⟩ = some (.int .i64 yt))
          (first | go_keep | with_reducible exact ⟨g0, g1, g2, g3⟩ | with_reducible exact ⟨p0, p1, p2, p3⟩)
          (first | (go_at_call 210; refine (hC.out _).mono ?_; rintro e w8 ⟨rfl, B8, _⟩; have g0 := (B8.cell (p := ⟨b, r * 2, none⟩) lb).trans p0; have g1 := (B8.cell (p := ⟨b, r * 2 + 1, none⟩) lb).trans p1; have g2 := (B8.cell (p := ⟨b, q * 2, none⟩) lb).trans p2; have g3 := (B8.cell (p := ⟨b, q * 2 + 1, none⟩) lb).trans p3))
        have K9 := K.below (below_next (below_drewN (Below.refl _ _) 1) B8)
        clear p0 p1 p2 p3 g0 g1 g2 g3 hC B8 K lb hv
        go_wp2
        go_roundw
        case rel => exact ⟨g, q + 1, j, by first | rfl | go_num, rfl, by omega, by omega, by omega, by omega, K9, hI2⟩
        case measure => simp [intOf]; omega
    · have hIi : i = I := by rw [← hI.out, bsF_end (by omega)]
      clear hI hT
      subst hIi
      have u2 : IntKind.i64.wrap ((nn : Int) - (i : Int)) = ((nn - i : Nat) : Int) := by rw [IntWalk.i64_in _ (by omega)]; omega
      obtain ⟨ee, hee⟩ : ∃ ee, nn - i = ee := ⟨_, rfl⟩
      rw [hee] at u2
      have hR := hRes.out i rfl
      rw [hee] at hR
      obtain ⟨l1, hl1⟩ : ∃ l1, (if i < m ∧ m < ee then rotF (bb + 1) (m - i) (ee - m) m M else M) = l1 := ⟨_, rfl⟩
      obtain ⟨l2, hl2⟩ : ∃ l2, (if a < i ∧ i < mid then symF (ltOf sdCf) f a i mid l1 else l1) = l2 := ⟨_, rfl⟩
      obtain ⟨l3, hl3⟩ : ∃ l3, (if mid < ee ∧ ee < bb then symF (ltOf sdCf) f mid ee bb l2 else l2) = l3 := ⟨_, rfl⟩
      rw [hl1, hl2, hl3] at hR
      have hRo := Lib.hid (fun (h8 : i < m) (h9 : m < ee) W (K : SyW w base b n c M W) => show Calls Tryz.prog 350 #[.slice (some ⟨b, 0, none⟩) n c, .int .i64 i, .int .i64 m, .int .i64 ee, .func (.func 210) #[] #[]] W fun e w' => e = .returned (.tuple #[]) ∧ SyW w base b n c l1 w' by
        rw [if_pos ⟨h8, h9⟩] at hl1
        exact (rotate_c base b n c M _ i m ee (bb + 1) W K.o K.bd h8 h9 (by omega) (by omega) hn).mono fun e w' ⟨he, hq⟩ => ⟨he, by rw [← hl1]; exact K.next hq⟩)
      have hLf := Lib.hid (fun (h8 : a < i) (h9 : i < mid) W (K : SyW w base b n c l1 W) => show Calls Tryz.prog 313 #[.slice (some ⟨b, 0, none⟩) n c, .int .i64 a, .int .i64 i, .int .i64 mid, .func (.func 210) #[] #[]] W fun e w' => e = .returned (.tuple #[]) ∧ SyW w base b n c l2 w' by
        rw [if_pos ⟨h8, h9⟩] at hl2
        rw [← hl2]
        exact ih.out a i mid l1 W K h8 h9 (by omega) (by omega))
      have hRi := Lib.hid (fun (h8 : mid < ee) (h9 : ee < bb) W (K : SyW w base b n c l2 W) => show Calls Tryz.prog 313 #[.slice (some ⟨b, 0, none⟩) n c, .int .i64 mid, .int .i64 ee, .int .i64 bb, .func (.func 210) #[] #[]] W fun e w' => e = .returned (.tuple #[]) ∧ SyW w base b n c l3 w' by
        rw [if_pos ⟨h8, h9⟩] at hl3
        rw [← hl3]
        exact ih.out mid ee bb l2 W K h8 h9 h3 (by omega))
      have n1 := Lib.hid (fun (h : ¬ (i < m ∧ m < ee)) => show M = l1 by rw [if_neg h] at hl1; exact hl1)
      have n2 := Lib.hid (fun (h : ¬ (a < i ∧ i < mid)) => show l1 = l2 by rw [if_neg h] at hl2; exact hl2)
      have n3 := Lib.hid (fun (h : ¬ (mid < ee ∧ ee < bb)) => show l2 = l3 by rw [if_neg h] at hl3; exact hl3)
      have hR' := Lib.hid hR
      clear hl1 hl2 hl3 hR hRes ih
      have K1 := K
      have c1 : (i < m ∧ m < ee) ∨ (i < m ∧ ¬ m < ee) ∨ ¬ i < m := by omega
      have c2 : (a < i ∧ i < mid) ∨ (a < i ∧ ¬ i < mid) ∨ ¬ a < i := by omega
      have c3 : (mid < ee ∧ ee < bb) ∨ (mid < ee ∧ ¬ ee < bb) ∨ ¬ mid < ee := by omega
      clear K k1 k2 k3 k4 hl1 hl2 hl3 hpp hnn hmid hf
      rcases c1 with ⟨a1, a2⟩ | ⟨a1, a2⟩ | a1
      · have r1 := Lib.hid (hRo.out a1 a2)
        rcases c2 with ⟨b1, b2⟩ | ⟨b1, b2⟩ | b1
        · have r2 := Lib.hid (hLf.out b1 b2)
          rcases c3 with ⟨d1, d2⟩ | ⟨d1, d2⟩ | d1
          · have r3 := Lib.hid (hRi.out d1 d2)
            clear hRo hLf hRi n1 n2 n3
            go_wp2_with fail
            refine (r1.out _ K1).mono ?_; rintro e wz ⟨rfl, K1⟩
            go_wp2_with fail
            refine (r2.out _ K1).mono ?_; rintro e wz ⟨rfl, K1⟩
            go_wp2_with fail
            refine (r3.out _ K1).mono ?_; rintro e wz ⟨rfl, K1⟩
            go_wp2
            go_end0
            exact ⟨rfl, by rw [← hR'.out]; exact K1⟩
          · obtain rfl := n3.out (fun h => d2 h.2)
            clear hRo hLf hRi n1 n2 n3
            go_wp2_with fail
            refine (r1.out _ K1).mono ?_; rintro e wz ⟨rfl, K1⟩
            go_wp2_with fail
            refine (r2.out _ K1).mono ?_; rintro e wz ⟨rfl, K1⟩
            go_wp2
            go_end0
            exact ⟨rfl, by rw [← hR'.out]; exact K1⟩
          · obtain rfl := n3.out (fun h => d1 h.1)
            clear hRo hLf hRi n1 n2 n3
            go_wp2_with fail
            refine (r1.out _ K1).mono ?_; rintro e wz ⟨rfl, K1⟩
            go_wp2_with fail
            refine (r2.out _ K1).mono ?_; rintro e wz ⟨rfl, K1⟩
            go_wp2
            go_end0
            exact ⟨rfl, by rw [← hR'.out]; exact K1⟩
        · obtain rfl := n2.out (fun h => b2 h.2)
          rcases c3 with ⟨d1, d2⟩ | ⟨d1, d2⟩ | d1
          · have r3 := Lib.hid (hRi.out d1 d2)
            clear hRo hLf hRi n1 n2 n3
            go_wp2_with fail
            refine (r1.out _ K1).mono ?_; rintro e wz ⟨rfl, K1⟩
            go_wp2_with fail
            refine (r3.out _ K1).mono ?_; rintro e wz ⟨rfl, K1⟩
            go_wp2
            go_end0
            exact ⟨rfl, by rw [← hR'.out]; exact K1⟩
          · obtain rfl := n3.out (fun h => d2 h.2)
            clear hRo hLf hRi n1 n2 n3
            go_wp2_with fail
            refine (r1.out _ K1).mono ?_; rintro e wz ⟨rfl, K1⟩
            go_wp2
            go_end0
            exact ⟨rfl, by rw [← hR'.out]; exact K1⟩
          · obtain rfl := n3.out (fun h => d1 h.1)
            clear hRo hLf hRi n1 n2 n3
            go_wp2_with fail
            refine (r1.out _ K1).mono ?_; rintro e wz ⟨rfl, K1⟩
            go_wp2
            go_end0
            exact ⟨rfl, by rw [← hR'.out]; exact K1⟩
        · obtain rfl := n2.out (fun h => b1 h.1)
          rcases c3 with ⟨d1, d2⟩ | ⟨d1, d2⟩ | d1
          · have r3 := Lib.hid (hRi.out d1 d2)
            clear hRo hLf hRi n1 n2 n3
            go_wp2_with fail
            refine (r1.out _ K1).mono ?_; rintro e wz ⟨rfl, K1⟩
            go_wp2_with fail
            refine (r3.out _ K1).mono ?_; rintro e wz ⟨rfl, K1⟩
            go_wp2
            go_end0
            exact ⟨rfl, by rw [← hR'.out]; exact K1⟩
          · obtain rfl := n3.out (fun h => d2 h.2)
            clear hRo hLf hRi n1 n2 n3
            go_wp2_with fail
            refine (r1.out _ K1).mono ?_; rintro e wz ⟨rfl, K1⟩
            go_wp2
            go_end0
            exact ⟨rfl, by rw [← hR'.out]; exact K1⟩
          · obtain rfl := n3.out (fun h => d1 h.1)
            clear hRo hLf hRi n1 n2 n3
            go_wp2_with fail
            refine (r1.out _ K1).mono ?_; rintro e wz ⟨rfl, K1⟩
            go_wp2
            go_end0
            exact ⟨rfl, by rw [← hR'.out]; exact K1⟩
      · obtain rfl := n1.out (fun h => a2 h.2)
        rcases c2 with ⟨b1, b2⟩ | ⟨b1, b2⟩ | b1
        · have r2 := Lib.hid (hLf.out b1 b2)
          rcases c3 with ⟨d1, d2⟩ | ⟨d1, d2⟩ | d1
          · have r3 := Lib.hid (hRi.out d1 d2)
            clear hRo hLf hRi n1 n2 n3
            go_wp2_with fail
            refine (r2.out _ K1).mono ?_; rintro e wz ⟨rfl, K1⟩
            go_wp2_with fail
            refine (r3.out _ K1).mono ?_; rintro e wz ⟨rfl, K1⟩
            go_wp2
            go_end0
            exact ⟨rfl, by rw [← hR'.out]; exact K1⟩
          · obtain rfl := n3.out (fun h => d2 h.2)
            clear hRo hLf hRi n1 n2 n3
            go_wp2_with fail
            refine (r2.out _ K1).mono ?_; rintro e wz ⟨rfl, K1⟩
            go_wp2
            go_end0
            exact ⟨rfl, by rw [← hR'.out]; exact K1⟩
          · obtain rfl := n3.out (fun h => d1 h.1)
            clear hRo hLf hRi n1 n2 n3
            go_wp2_with fail
            refine (r2.out _ K1).mono ?_; rintro e wz ⟨rfl, K1⟩
            go_wp2
            go_end0
            exact ⟨rfl, by rw [← hR'.out]; exact K1⟩
        · obtain rfl := n2.out (fun h => b2 h.2)
          rcases c3 with ⟨d1, d2⟩ | ⟨d1, d2⟩ | d1
          · have r3 := Lib.hid (hRi.out d1 d2)
            clear hRo hLf hRi n1 n2 n3
            go_wp2_with fail
            refine (r3.out _ K1).mono ?_; rintro e wz ⟨rfl, K1⟩
            go_wp2
            go_end0
            exact ⟨rfl, by rw [← hR'.out]; exact K1⟩
          · obtain rfl := n3.out (fun h => d2 h.2)
            clear hRo hLf hRi n1 n2 n3
            go_wp2
            go_end0
            exact ⟨rfl, by rw [← hR'.out]; exact K1⟩
          · obtain rfl := n3.out (fun h => d1 h.1)
            clear hRo hLf hRi n1 n2 n3
            go_wp2
            go_end0
            exact ⟨rfl, by rw [← hR'.out]; exact K1⟩
        · obtain rfl := n2.out (fun h => b1 h.1)
          rcases c3 with ⟨d1, d2⟩ | ⟨d1, d2⟩ | d1
          · have r3 := Lib.hid (hRi.out d1 d2)
            clear hRo hLf hRi n1 n2 n3
            go_wp2_with fail
            refine (r3.out _ K1).mono ?_; rintro e wz ⟨rfl, K1⟩
            go_wp2
            go_end0
            exact ⟨rfl, by rw [← hR'.out]; exact K1⟩
          · obtain rfl := n3.out (fun h => d2 h.2)
            clear hRo hLf hRi n1 n2 n3
            go_wp2
            go_end0
            exact ⟨rfl, by rw [← hR'.out]; exact K1⟩
          · obtain rfl := n3.out (fun h => d1 h.1)
            clear hRo hLf hRi n1 n2 n3
            go_wp2
            go_end0
            exact ⟨rfl, by rw [← hR'.out]; exact K1⟩
      · obtain rfl := n1.out (fun h => a1 h.1)
        rcases c2 with ⟨b1, b2⟩ | ⟨b1, b2⟩ | b1
        · have r2 := Lib.hid (hLf.out b1 b2)
          rcases c3 with ⟨d1, d2⟩ | ⟨d1, d2⟩ | d1
          · have r3 := Lib.hid (hRi.out d1 d2)
            clear hRo hLf hRi n1 n2 n3
            go_wp2_with fail
            refine (r2.out _ K1).mono ?_; rintro e wz ⟨rfl, K1⟩
            go_wp2_with fail
            refine (r3.out _ K1).mono ?_; rintro e wz ⟨rfl, K1⟩
            go_wp2
            go_end0
            exact ⟨rfl, by rw [← hR'.out]; exact K1⟩
          · obtain rfl := n3.out (fun h => d2 h.2)
            clear hRo hLf hRi n1 n2 n3
            go_wp2_with fail
            refine (r2.out _ K1).mono ?_; rintro e wz ⟨rfl, K1⟩
            go_wp2
            go_end0
            exact ⟨rfl, by rw [← hR'.out]; exact K1⟩
          · obtain rfl := n3.out (fun h => d1 h.1)
            clear hRo hLf hRi n1 n2 n3
            go_wp2_with fail
            refine (r2.out _ K1).mono ?_; rintro e wz ⟨rfl, K1⟩
            go_wp2
            go_end0
            exact ⟨rfl, by rw [← hR'.out]; exact K1⟩
        · obtain rfl := n2.out (fun h => b2 h.2)
          rcases c3 with ⟨d1, d2⟩ | ⟨d1, d2⟩ | d1
          · have r3 := Lib.hid (hRi.out d1 d2)
            clear hRo hLf hRi n1 n2 n3
            go_wp2_with fail
            refine (r3.out _ K1).mono ?_; rintro e wz ⟨rfl, K1⟩
            go_wp2
            go_end0
            exact ⟨rfl, by rw [← hR'.out]; exact K1⟩
          · obtain rfl := n3.out (fun h => d2 h.2)
            clear hRo hLf hRi n1 n2 n3
            go_wp2
            go_end0
            exact ⟨rfl, by rw [← hR'.out]; exact K1⟩
          · obtain rfl := n3.out (fun h => d1 h.1)
            clear hRo hLf hRi n1 n2 n3
            go_wp2
            go_end0
            exact ⟨rfl, by rw [← hR'.out]; exact K1⟩
        · obtain rfl := n2.out (fun h => b1 h.1)
          rcases c3 with ⟨d1, d2⟩ | ⟨d1, d2⟩ | d1
          · have r3 := Lib.hid (hRi.out d1 d2)
            clear hRo hLf hRi n1 n2 n3
            go_wp2_with fail
            refine (r3.out _ K1).mono ?_; rintro e wz ⟨rfl, K1⟩
            go_wp2
            go_end0
            exact ⟨rfl, by rw [← hR'.out]; exact K1⟩
          · obtain rfl := n3.out (fun h => d2 h.2)
            clear hRo hLf hRi n1 n2 n3
            go_wp2
            go_end0
            exact ⟨rfl, by rw [← hR'.out]; exact K1⟩
          · obtain rfl := n3.out (fun h => d1 h.1)
            clear hRo hLf hRi n1 n2 n3
            go_wp2
            go_end0
            exact ⟨rfl, by rw [← hR'.out]; exact K1⟩
theorem symMergeB_c (base b n c : Nat) (hn : n ≤ 1000) (w : World) : ∀ (f a m bb : Nat) (M : List Sd) (W : World), SyW w base b n c M W → a < m → m < bb → bb ≤ n → bb - a ≤ f → Calls Tryz.prog 313 #[.slice (some ⟨b, 0, none⟩) n c, .int .i64 a, .int .i64 m, .int .i64 bb, .func (.func 210) #[] #[]] W fun e w' => e = .returned (.tuple #[]) ∧ SyW w base b n c (symF (ltOf sdCf) f a m bb M) w'
  | 0, a, m, bb, M, W, K, h1, h2, h3, h4 => absurd h4 (by omega)
  | f + 1, a, m, bb, M, W, K, h1, h2, h3, h4 => by
    by_cases q1 : m = a + 1
    · exact sym1B_c base b n c M a m bb f w W K h1 (by omega) h2 h3 hn
    · by_cases q2 : bb = m + 1
      · exact sym2B_c base b n c M a m bb f w W K (by omega) h2 (by omega) h3 hn
      · exact sym3B_c base b n c M a m bb f w W K (by omega) (by omega) h3 hn h4 (fun a m bb M W K h1 h2 h3 h4 => symMergeB_c base b n c hn w f a m bb M W K h1 h2 h3 h4)
end Go.Proofs.YtdbfcneeiiialaaGreatDoor
