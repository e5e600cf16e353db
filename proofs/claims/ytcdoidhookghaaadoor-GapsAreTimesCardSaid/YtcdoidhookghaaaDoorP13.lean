/- GapsAreTimes, plain; slices.IndexFunc at the swimmer whose name is that of the first gap. -/
import Derived.Test.YtcdoidhookghaaaDoorGapsP
import Derived.Test.YtcdoidhookghaaaDoorPairHas
import Derived.Test.YtcdoidhookghaaaDoorAheadA
import Derived.Test.YtcdoidhookghaaaDoorP17
namespace Go.Proofs.YtcdoidhookghaaaDoor
open Go.RowKit
set_option linter.unusedVariables false

theorem minG_le (E : Nat) : ∀ (l : List Sw) (f : Int), minG E l f ≤ f ∧ ∀ x ∈ l, minG E l f ≤ gapV E x
  | [], f => ⟨Int.le_refl _, fun x hx => by cases hx⟩
  | y :: r, f => by
    obtain ⟨h1, h2⟩ := minG_le E r (min f (gapV E y))
    refine ⟨by unfold minG; omega, fun x hx => ?_⟩
    unfold minG
    rcases List.mem_cons.1 hx with rfl | hx
    · omega
    · exact h2 x hx
theorem minG_ex (E : Nat) : ∀ (l : List Sw) (f : Int), minG E l f = f ∨ ∃ x ∈ l, minG E l f = gapV E x
  | [], f => .inl rfl
  | y :: r, f => by
    unfold minG
    rcases minG_ex E r (min f (gapV E y)) with h | ⟨x, hx, h⟩
    · by_cases hf : f ≤ gapV E y
      · left; rw [h]; omega
      · right; exact ⟨y, by simp, by rw [h]; omega⟩
    · right; exact ⟨x, by simp [hx], h⟩
theorem firstG_of {E : Nat} {l : List Sw} (hl : l ≠ []) (hb : ∀ x ∈ l, gapV E x ≤ 360000) : (∀ x ∈ l, firstG E l ≤ gapV E x) ∧ ∃ x ∈ l, gapV E x = firstG E l := by
  refine ⟨(minG_le E l 360000).2, ?_⟩
  rcases minG_ex E l 360000 with h | ⟨x, hx, h⟩
  · rcases l with _ | ⟨y, r⟩
    · exact absurd rfl hl
    · have h1 := (minG_le E (y :: r) 360000).2 y (by simp)
      have h2 := hb y (by simp)
      exact ⟨y, by simp, by unfold firstG; rw [h] at h1 ⊢; omega⟩
  · exact ⟨x, hx, h.symm⟩
/-- the first gap is none, and belongs to somebody who is first -/
theorem gap_first {E : Nat} {l : List Sw} {g : List Gp} {g0 : Gp} (hl : l ≠ []) (hb : ∀ x ∈ l, gapV E x ≤ 360000) (hp : g.Perm (gapLs E (firstG E l) l)) (hs : ∀ (i j : Nat) (x y : Gp), i < j → g[i]? = some x → g[j]? = some y → x.behind ≤ y.behind) (h0 : g[0]? = some g0) : g0.behind = 0 ∧ ∃ x ∈ l, x.who = g0.who ∧ gapV E x = firstG E l := by
  obtain ⟨h1, x, hx, h2⟩ := firstG_of hl hb
  have hm : g0 ∈ gapLs E (firstG E l) l := hp.subset (List.mem_of_getElem? h0)
  obtain ⟨y, hy, rfl⟩ := List.mem_map.1 hm
  have h3 := h1 y hy
  have hx0 : (⟨x.who, (E : Int), gapV E x - firstG E l⟩ : Gp) ∈ g := hp.symm.subset (List.mem_map.2 ⟨x, hx, rfl⟩)
  obtain ⟨j, hj⟩ := List.mem_iff_getElem?.1 hx0
  have h4 : gapV E y - firstG E l ≤ gapV E x - firstG E l := by
    rcases Nat.eq_zero_or_pos j with e | e
    · subst e
      rw [h0] at hj
      injection hj with hj
      injection hj with _ _ hj
      omega
    · exact hs 0 j _ _ e h0 hj
  have h5 : gapV E y = firstG E l := by omega
  exact ⟨by show gapV E y - firstG E l = 0; omega, y, hy, rfl, h5⟩

/-! ## IndexFunc at that swimmer -/
def firstW (w0 : ByteArray) : List Sw → Int → Int
  | [], _ => -1
  | x :: r, k => if x.who = w0 then k else firstW w0 r (k + 1)
theorem firstW_at {w0 : ByteArray} {l : List Sw} {j : Nat} {x : Sw} (k : Int) (h : l[j]? = some x) : firstW w0 (l.drop j) k = if x.who = w0 then k else firstW w0 (l.drop (j + 1)) (k + 1) := by rw [drop_at h]; rfl
theorem firstW_some (w0 : ByteArray) : ∀ (l : List Sw) (k : Nat), (∃ x ∈ l, x.who = w0) → ∃ (j : Nat) (x : Sw), firstW w0 l k = ((k + j : Nat) : Int) ∧ l[j]? = some x ∧ x.who = w0
  | [], _, h => by obtain ⟨x, hx, _⟩ := h; cases hx
  | y :: r, k, h => by
    unfold firstW
    by_cases hy : y.who = w0
    · exact ⟨0, y, by rw [if_pos hy]; rfl, rfl, hy⟩
    · obtain ⟨x, hx, hw⟩ := h
      have hxr : x ∈ r := by
        rcases List.mem_cons.1 hx with rfl | hx
        · exact absurd hw hy
        · exact hx
      obtain ⟨j, z, h1, h2, h3⟩ := firstW_some w0 r (k + 1) ⟨x, hxr, hw⟩
      refine ⟨j + 1, z, ?_, by simpa using h2, h3⟩
      rw [if_neg hy]
      have e : ((k : Int) + 1) = ((k + 1 : Nat) : Int) := by omega
      rw [e, h1]; congr 1; omega
set_option maxHeartbeats 1600000 in
set_option maxRecDepth 100000 in
theorem whoIs_c (who w0 : ByteArray) (A : Option Addr) (xn xc B b off n c : Nat) (W : World) (hB : W.cell? ⟨B, 0, none⟩ = some (.slice (some ⟨b, off, none⟩) n c)) (hn : 1 ≤ n) (hc : W.cell? ⟨b, off, none⟩ = some (.string w0)) (lb : b < W.heap.size) (lB : B < W.heap.size) :
    Calls Tryd.prog 48 #[.agg #[.string who, .slice A xn xc], .pointer (some ⟨B, 0, none⟩)] W fun e w' => e = .returned (.bool (decide (who = w0))) ∧ Below W.heap.size W w' := by
  have hn5 := heap_alloc_new W (.cells #[.string who, .slice A xn xc] 86)
  have y0 := (blk_facts hn5).1 0
  have y1 := (blk_facts hn5).1 1
  have cB : (W.alloc (.cells #[.string who, .slice A xn xc] 86)).cell? ⟨B, 0, none⟩ = some (.slice (some ⟨b, off, none⟩) n c) := (World.cell?_alloc_lt W _ ⟨B, 0, none⟩ lB).trans hB
  have cb : (W.alloc (.cells #[.string who, .slice A xn xc] 86)).cell? ⟨b, off, none⟩ = some (.string w0) := (World.cell?_alloc_lt W _ ⟨b, off, none⟩ lb).trans hc
  have hBl := below_new W (.cells #[.string who, .slice A xn xc] 86)
  have hn0 : 0 < n := by omega
  have hn0' : (0 : Int) < (n : Int) := by omega
  clear hn5 hB hc
  by_cases h : who = w0
  · subst h
    go_enter Tryd.func48, Tryd.ntmps48
    go_wp2_with fail
    go_quiet (fail)
    go_wp2
    go_ret
    exact ⟨by simp, below_drewN hBl _⟩
  · have hne : (who.toList == w0.toList) = false := str_nePr h
    have hd : decide (who = w0) = false := decide_eq_false h
    rw [hd]
    clear h hd
    go_enter Tryd.func48, Tryd.ntmps48
    go_wp2_with fail
    go_quiet (fail)
    go_wp2
    go_ret
    exact ⟨by simp, below_drewN hBl _⟩
set_option maxHeartbeats 1600000 in
set_option maxRecDepth 100000 in
theorem indexWho_c (A : Option Addr) (m d : Nat) (l : List Sw) (w0 : ByteArray) (B b off n c : Nat) (w : World) (h : RSw w A m l) (hm : m ≤ 1000) (hB : w.cell? ⟨B, 0, none⟩ = some (.slice (some ⟨b, off, none⟩) n c)) (hn : 1 ≤ n) (hc : w.cell? ⟨b, off, none⟩ = some (.string w0)) (lb : b < w.heap.size) (lB : B < w.heap.size) :
    Calls Tryd.prog 47 #[.slice A m d, .func (.func 48) #[] #[.pointer (some ⟨B, 0, none⟩)]] w fun e w' => e = .returned (.int .i64 (firstW w0 l 0)) ∧ Below w.heap.size w w' := by
  have hl := Lib.hid h.len
  have hW := Lib.hid (fun who A xn xc W (hb : Below w.heap.size w W) => whoIs_c who w0 A xn xc B b off n c W ((hb.cell (p := ⟨B, 0, none⟩) lB).trans hB) hn ((hb.cell (p := ⟨b, off, none⟩) lb).trans hc) (Nat.lt_of_lt_of_le lb hb.size) (Nat.lt_of_lt_of_le lB hb.size))
  generalize hE : firstW w0 l 0 = E
  have hE' := Lib.hid hE
  clear hE hB hc lb lB hn
  go_enter Tryd.func47, Tryd.ntmps47
  go_wp2_with fail
  go_loopw [8] (fun i wr => ∃ k : Nat, k ≤ m ∧ i = .int .i64 k ∧ Below w.heap.size w wr ∧ Hid (firstW w0 (l.drop k) k = E)) (fun i _ => m - (intOf i).toNat)
  case atStart => exact ⟨0, Nat.zero_le _, rfl, Below.refl _ _, Lib.hid hE'.out⟩
  case round =>
    obtain ⟨k, hk, rfl, hBl, hF⟩ := hrel
    by_cases hlt : k < m
    · obtain ⟨bs, os, x, hA, hbl, hx, c0, c1, hI⟩ := (h.below hBl).at2 hlt
      subst hA
      have hT := Lib.hid (firstW_at (w0 := w0) (k : Int) hx)
      obtain ⟨who, xA, xn, xc, xs⟩ := x
      dsimp only at *
      clear hx hI
      go_wp2_with fail
      refine (hW.out _ _ _ _ _ hBl).mono ?_; rintro e w2 ⟨rfl, B2⟩
      have hB2 := below_next hBl B2
      by_cases hq : who = w0
      · have hq' := Lib.hid hq
        rw [decide_eq_true hq]
        clear hq
        go_wp2
        go_ret
        exact ⟨ret_i (by rw [← hF.out, hT.out, if_pos hq'.out]), hB2⟩
      · have hq' := Lib.hid hq
        rw [decide_eq_false hq]
        clear hq
        go_wp2
        go_roundw
        case rel => exact ⟨k + 1, by omega, by go_num, hB2, Lib.hid (by rw [← hF.out, hT.out, if_neg hq'.out]; rfl)⟩
        case measure => simp [intOf]; omega
    · obtain rfl : k = m := by omega
      go_wp2
      go_ret
      exact ⟨ret_i (by rw [← hF.out, drop_end (by rw [hl.out]; exact Nat.le_refl _)]; rfl), hBl⟩
end Go.Proofs.YtcdoidhookghaaaDoor
