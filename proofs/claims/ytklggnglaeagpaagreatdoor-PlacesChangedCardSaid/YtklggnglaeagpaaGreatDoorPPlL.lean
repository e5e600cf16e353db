import Derived.Test.YtklggnglaeagpaaGreatDoorPP37
import Derived.Test.YtklggnglaeagpaaGreatDoorPStaN
import Derived.Test.YtklggnglaeagpaaGreatDoorPScrP
import Derived.Test.YtklggnglaeagpaaGreatDoorPFinT
import Derived.Test.YtklggnglaeagpaaGreatDoorPSetSp
import Derived.Test.YtklggnglaeagpaaGreatDoorPPlaR
import Derived.Test.YtklggnglaeagpaaGreatDoorPSeedM
import Derived.Test.YtklggnglaeagpaaGreatDoorPMkReg
import Derived.Deep.DeepCutAuto
/- heat.checkPlaces and tumbref1.PlacesFault of any places: the same error. -/
namespace Go.Proofs.YtklggnglaeagpaaGreatDoor
open Go.RowKit
open Go.Maps (Keyed string_keyed int_keyed keyOf_int_mk)
open Go.MapKept Go.ChangeMaps
open Go.WideMaps (keyOf_string_mk)
set_option linter.unusedVariables false

def prevPc (l : List Pc) (k : Nat) : Option Pc := if k = 0 then none else l[k - 1]?
def pcErr (f : Fl) (prev : Option Pc) (x : Pc) : Int := if keyB x.who = false then 5 else if ¬ ((0 ≤ x.fin ∧ x.fin ≤ f.mn) ∧ (1 ≤ x.rk ∧ x.rk ≤ 300)) then 1 else match prev with
  | some y => if x.fin ≠ 0 ∧ (y.fin = 0 ∨ x.fin < y.fin) then 7 else 0
  | none => 0
def placesGo (f : Fl) : List ByteArray → Bool → List Pc → Option Pc → List Pc → Int
  | _, tw, _, _, [] => if tw then 6 else 0
  | seen, tw, pre, prev, x :: r => if pcErr f prev x ≠ 0 then pcErr f prev x else if 0 < x.fin ∧ f.sz < (cntF x.fin pre : Int) + 1 then 12 else placesGo f (x.who :: seen) (tw || seenB x.who seen) (pre ++ [x]) (some x) r
def placesErr (f : Fl) (l : List Pc) : Int := if 300 < l.length then 2 else placesGo f [] false [] none l
theorem placesGo_at {f : Fl} {l : List Pc} {k : Nat} {x : Pc} (seen : List ByteArray) (tw : Bool) (h : l[k]? = some x) : placesGo f seen tw (l.take k) (prevPc l k) (l.drop k) = if pcErr f (prevPc l k) x ≠ 0 then pcErr f (prevPc l k) x else if 0 < x.fin ∧ f.sz < (cntF x.fin (l.take k) : Int) + 1 then 12 else placesGo f (x.who :: seen) (tw || seenB x.who seen) (l.take (k + 1)) (prevPc l (k + 1)) (l.drop (k + 1)) := by
  have e : prevPc l (k + 1) = some x := by unfold prevPc; rw [if_neg (by omega)]; exact h
  have e2 : l.take (k + 1) = l.take k ++ [x] := by rw [List.take_add_one, h]; rfl
  rw [drop_at h, e, e2]
  rfl
theorem pcErr_ok {f : Fl} {o : Option Pc} {x : Pc} (h : pcErr f o x = 0) : keyB x.who = true ∧ (0 ≤ x.fin ∧ x.fin ≤ f.mn) ∧ (1 ≤ x.rk ∧ x.rk ≤ 300) := by
  unfold pcErr at h
  split at h
  · cases h
  · rename_i h1
    split at h
    · cases h
    · rename_i h2
      exact ⟨by simpa using h1, Decidable.not_not.1 h2⟩
theorem pcErr_prev {f : Fl} {y x : Pc} (h : pcErr f (some y) x = 0) : x.fin = 0 ∨ (y.fin ≠ 0 ∧ y.fin ≤ x.fin) := by
  unfold pcErr at h
  split at h
  · cases h
  · split at h
    · cases h
    · dsimp only at h
      split at h
      · cases h
      · rename_i h3
        by_cases h0 : x.fin = 0
        · exact .inl h0
        · refine .inr ⟨fun h1 => h3 ⟨h0, .inl h1⟩, ?_⟩
          by_cases h9 : x.fin < y.fin
          · exact absurd ⟨h0, .inr h9⟩ h3
          · omega
theorem placesGo_ok {f : Fl} {l : List Pc} : ∀ (m k : Nat) (seen : List ByteArray) (tw : Bool), k + m = l.length → TwI seen tw ((l.take k).map Pc.who) → placesGo f seen tw (l.take k) (prevPc l k) (l.drop k) = 0 →
    (l.map Pc.who).Nodup ∧ ∀ j x, k ≤ j → l[j]? = some x → pcErr f (prevPc l j) x = 0 ∧ (0 < x.fin → (cntF x.fin (l.take (j + 1)) : Int) ≤ f.sz)
  | 0, k, seen, tw, hk, ht, h => by
    rw [List.drop_of_length_le (by omega)] at h
    have htw : tw = false := by
      cases tw
      · rfl
      · cases h
    refine ⟨?_, fun j x hj hx => ?_⟩
    · have := ht.2
      rw [htw, List.take_of_length_le (by omega)] at this
      exact Classical.not_not.1 (fun h9 => by have := this.2 h9; cases this)
    · have := (List.getElem?_eq_some_iff.1 hx).1
      omega
  | m + 1, k, seen, tw, hk, ht, h => by
    obtain ⟨x, hx⟩ := at_of_lt (l := l) (k := k) (by omega)
    rw [placesGo_at seen tw hx] at h
    have e2 : l.take (k + 1) = l.take k ++ [x] := by rw [List.take_add_one, hx]; rfl
    split at h
    · rename_i h9; exact absurd h h9
    · rename_i h9
      split at h
      · cases h
      · rename_i h8
        obtain ⟨r1, r2⟩ := placesGo_ok m (k + 1) (x.who :: seen) (tw || seenB x.who seen) (by omega) (by rw [e2, List.map_append]; exact ht.snoc x.who) h
        refine ⟨r1, fun j y hj hy => ?_⟩
        rcases Nat.lt_or_ge k j with h1 | h1
        · exact r2 j y h1 hy
        · obtain rfl : j = k := by omega
          rw [hx] at hy
          obtain rfl := Option.some.inj hy
          refine ⟨Decidable.not_not.1 h9, fun hf => ?_⟩
          rw [e2, cntF_snoc, if_pos rfl]
          push_cast
          by_cases h7 : f.sz < (cntF x.fin (l.take j) : Int) + 1
          · exact absurd ⟨hf, h7⟩ h8
          · omega
/-- places without an error are right ones -/
theorem plsOk_of {f : Fl} {l : List Pc} (h : placesErr f l = 0) : PlsOk f l := by
  unfold placesErr at h
  split at h
  · cases h
  · rename_i hb
    obtain ⟨r1, r2⟩ := placesGo_ok (f := f) (l := l) l.length 0 [] false (by omega) TwI.nil (by rw [List.drop_zero]; exact h)
    refine ⟨by omega, fun x hx => ?_, fun k x y hx hy => ?_, fun k x hx hp => (r2 k x (Nat.zero_le _) hx).2 hp, r1⟩
    · obtain ⟨j, hj⟩ := List.getElem?_of_mem hx
      exact pcErr_ok (r2 j x (Nat.zero_le _) hj).1
    · have h9 := (r2 (k + 1) y (Nat.zero_le _) hy).1
      have e : prevPc l (k + 1) = some x := by unfold prevPc; rw [if_neg (by omega)]; exact hx
      rw [e] at h9
      exact pcErr_prev h9
/-- what a place owes to the one ahead of it -/
def ordB (prev : Option Pc) (x : Pc) : Bool := match prev with
  | some y => (x.fin != 0) && ((y.fin == 0) || decide (x.fin < y.fin))
  | none => false
theorem ordB_err {f : Fl} {o : Option Pc} {x : Pc} (h1 : keyB x.who = true) (h2 : (0 ≤ x.fin ∧ x.fin ≤ f.mn) ∧ (1 ≤ x.rk ∧ x.rk ≤ 300)) : pcErr f o x = if ordB o x = true then 7 else 0 := by
  unfold pcErr
  rw [if_neg (by simp [h1]), if_neg (fun h9 => h9 h2)]
  cases o with
  | none => rfl
  | some y =>
    unfold ordB
    dsimp only
    congr 1
    simp
set_option maxHeartbeats 3200000 in
set_option maxRecDepth 100000 in
theorem checkPlaceX_c (f : Fl) (hf : FlOk f) (A : Option Addr) (n c : Nat) (p : List Pc) (k : Nat) (x : Pc) (hk : k < n) (w : World) (h : RPc w A n p) (hx : p[k]? = some x) (hn : n ≤ 300) :
    Calls Tryz.prog 271 #[f.val, .slice A n c, .int .i64 k] w fun e w' => e = .returned (.int .i64 (pcErr f (prevPc p k) x)) ∧ Below w.heap.size w w' := by
  have hF0 : FinB w.heap.size f (w.alloc (.cells f.cells 128)) := heap_alloc_new w _
  have hB0 := below_new w (.cells f.cells 128)
  obtain ⟨b, off, x', rfl, hbl, hx', c0, c1, c2⟩ := RPc_at3 (h.below hB0) hk
  rw [hx] at hx'
  obtain rfl := Option.some.inj hx'
  have hOb := Lib.hid (fun h1 h2 => @ordB_err f (prevPc p k) x h1 h2)
  have hEr := Lib.hid (show pcErr f (prevPc p k) x = if keyB x.who = false then 5 else if ¬ ((0 ≤ x.fin ∧ x.fin ≤ f.mn) ∧ (1 ≤ x.rk ∧ x.rk ≤ 300)) then 1 else match prevPc p k with
    | some y => if x.fin ≠ 0 ∧ (y.fin = 0 ∨ x.fin < y.fin) then 7 else 0
    | none => 0 from rfl)
  generalize pcErr f (prevPc p k) x = E at *
  have hprev : (k = 0 ∧ prevPc p k = none) ∨ (1 ≤ k ∧ ∃ y, prevPc p k = some y ∧ w.cell? ⟨b, off + (k - 1) * 3 + 1, none⟩ = some (.int .i64 y.fin)) := by
    by_cases h0 : k = 0
    · exact .inl ⟨h0, if_pos h0⟩
    · obtain ⟨b', off', y, hA, _, hy, d0, d1, d2⟩ := RPc_at3 h (k := k - 1) (by omega)
      injection hA with hA
      injection hA with e1 e2
      subst e1 e2
      exact .inr ⟨by omega, y, by unfold prevPc; rw [if_neg h0]; exact hy, d1⟩
  obtain ⟨y0, y1, y2⟩ := (hF0.keep _ _ (below_new _ (.cells #[.string x.who, .int .i64 x.fin, .int .i64 x.rk] 144))).at_
  have hb5 := heap_alloc_new (w.alloc (.cells f.cells 128)) (.cells #[.string x.who, .int .i64 x.fin, .int .i64 x.rk] 144)
  have hB5 := hB0.alloc hB0.size (.cells #[.string x.who, .int .i64 x.fin, .int .i64 x.rk] 144)
  have hlt0 : b < w.heap.size := RN_lt h (by omega)
  have hFk := Lib.hid (fun v (B : Below ((w.alloc (.cells f.cells 128)).alloc (.cells #[.string x.who, .int .i64 x.fin, .int .i64 x.rk] 144)).heap.size ((w.alloc (.cells f.cells 128)).alloc (.cells #[.string x.who, .int .i64 x.fin, .int .i64 x.rk] 144)) v) => ((hF0.keep _ _ (below_new _ (.cells #[.string x.who, .int .i64 x.fin, .int .i64 x.rk] 144))).keep _ _ B).at_)
  have hPk := Lib.hid (fun v (B : Below w.heap.size w v) o u (hc : w.cell? ⟨b, o, none⟩ = some u) => show v.cell? ⟨b, o, none⟩ = some u from (B.cell (p := ⟨b, o, none⟩) hlt0).trans hc)
  have hkey := Lib.hid (fun W => isKey_c x.who W)
  clear hx hx' h hF0
  obtain ⟨who, fin, rk⟩ := x
  obtain ⟨sz, mn, rs⟩ := f
  obtain ⟨⟨p0, p1⟩, ⟨p2, p3⟩, p4, p5⟩ := hf
  dsimp only [Fl.val, Fl.cells] at *
  have k0 : (0 : Int) ≤ (k : Int) := by omega
  have kn : (k : Int) < (n : Int) := by omega
  rw [alloc_size] at hb5
  by_cases hkb : keyB who = false
  · obtain rfl : E = 5 := by rw [hEr.out, if_pos hkb]
    rw [hkb] at hkey
    clear hEr hOb hprev hkb
    go_enter Tryz.func271, Tryz.ntmps271
    go_wp2_with fail
    refine (hkey.out _).mono ?_; rintro e w6 ⟨rfl, B6⟩
    have hB6 := below_next hB5 B6
    go_wp2
    go_ret
    exact ⟨rfl, hB6⟩
  have hkt : keyB who = true := by simpa using hkb
  rw [hkt] at hkey
  by_cases hrg : (0 ≤ fin ∧ fin ≤ mn) ∧ (1 ≤ rk ∧ rk ≤ 300)
  rotate_left
  · obtain rfl : E = 1 := by rw [hEr.out, if_neg hkb, if_pos hrg]
    by_cases hr1 : 0 ≤ fin ∧ fin ≤ mn
    · have d1 : decide (0 ≤ fin ∧ fin ≤ mn) = true := decide_eq_true hr1
      have d2 : decide (1 ≤ rk ∧ rk ≤ 300) = false := decide_eq_false (fun h => hrg ⟨hr1, h⟩)
      clear hEr hOb hprev hkb hkt hrg hr1
      go_enter Tryz.func271, Tryz.ntmps271
      go_wp2_with fail
      refine (hkey.out _).mono ?_; rintro e w6 ⟨rfl, B6⟩
      have hb6 := blk_below hb5 B6
      obtain ⟨y0, y1, y2⟩ := hFk.out _ B6
      have hB6 := below_next hB5 B6
      have x0 := (blk_facts hb6).1 0
      have x1 := (blk_facts hb6).1 1
      have x2 := (blk_facts hb6).1 2
      clear hkey hb5 hB5 B6 hFk c0 c1 c2
      go_wp2_with (go_at_call 128; refine (within_c _ _ _ _).mono ?_; rintro e w' ⟨rfl, rfl⟩; first | rw [d1] | rw [d2])
      go_ret
      exact ⟨rfl, hB6⟩
    · have d1 : decide (0 ≤ fin ∧ fin ≤ mn) = false := decide_eq_false hr1
      clear hEr hOb hprev hkb hkt hrg hr1
      go_enter Tryz.func271, Tryz.ntmps271
      go_wp2_with fail
      refine (hkey.out _).mono ?_; rintro e w6 ⟨rfl, B6⟩
      have hb6 := blk_below hb5 B6
      obtain ⟨y0, y1, y2⟩ := hFk.out _ B6
      have hB6 := below_next hB5 B6
      have x0 := (blk_facts hb6).1 0
      have x1 := (blk_facts hb6).1 1
      have x2 := (blk_facts hb6).1 2
      clear hkey hb5 hB5 B6 hFk c0 c1 c2
      go_wp2_with (go_at_call 128; refine (within_c _ _ _ _).mono ?_; rintro e w' ⟨rfl, rfl⟩; rw [d1])
      go_ret
      exact ⟨rfl, hB6⟩
  have hE2 := Lib.hid (hOb.out hkt hrg)
  have d1 : decide (0 ≤ fin ∧ fin ≤ mn) = true := decide_eq_true hrg.1
  have d2 : decide (1 ≤ rk ∧ rk ≤ 300) = true := decide_eq_true hrg.2
  clear hEr hOb hkb hkt hrg
  go_enter Tryz.func271, Tryz.ntmps271
  go_wp2_with fail
  refine (hkey.out _).mono ?_; rintro e w6 ⟨rfl, B6⟩
  have hb6 := blk_below hb5 B6
  obtain ⟨y0, y1, y2⟩ := hFk.out _ B6
  have hB6 := below_next hB5 B6
  have x0 := (blk_facts hb6).1 0
  have x1 := (blk_facts hb6).1 1
  have x2 := (blk_facts hb6).1 2
  clear hkey hb5 hB5 B6 hFk c0 c1 c2
  go_wp2_with (go_at_call 128; refine (within_c _ _ _ _).mono ?_; rintro e w' ⟨rfl, rfl⟩; first | rw [d1] | rw [d2])
  rcases hprev with ⟨h0, hn0⟩ | ⟨h1, y, hy, hc⟩
  · rw [hn0] at hE2
    obtain rfl : E = 0 := hE2.out
    have e8 : decide (0 < k) = false := decide_eq_false (by omega)
    have e9 : decide ((0 : Int) < (k : Int)) = false := decide_eq_false (by omega)
    clear h0 hn0 hE2
    go_quiet (fail)
    clear e8 e9
    go_wp2
    go_ret
    exact ⟨rfl, below_drewN hB6 _⟩
  rw [hy] at hE2
  have hc6 := hPk.out _ hB6 _ _ hc
  obtain ⟨yw, pf, yr⟩ := y
  dsimp only at hc6 hc
  have e1 : IntKind.i64.wrap ((k : Int) - 1) = (k : Int) - 1 := IntWalk.i64_in _ (by omega)
  have e2 : 0 ≤ (k : Int) - 1 := by omega
  have e3 : ((k : Int) - 1).toNat = k - 1 := by omega
  have e4 : (k : Int) - 1 < n := by omega
  have e5 : decide (0 < k) = true := decide_eq_true (by omega)
  have e9 : decide ((0 : Int) < (k : Int)) = true := decide_eq_true (by omega)
  clear hy hc hPk
  by_cases hf0 : fin = 0
  · subst hf0
    obtain rfl : E = 0 := by rw [hE2.out]; rfl
    have e6 : ((0 : Int) != 0) = false := by decide
    clear hE2
    go_quiet (fail)
    clear e5 e9
    go_wp2
    go_ret
    exact ⟨rfl, below_drewN hB6 _⟩
  have e6 : (fin != 0) = true := by simpa using hf0
  by_cases hpf : pf = 0
  · subst hpf
    obtain rfl : E = 7 := by rw [hE2.out]; rw [show ordB (some ⟨yw, 0, yr⟩) ⟨who, fin, rk⟩ = ((fin != 0) && (((0 : Int) == 0) || decide (fin < 0))) from rfl, e6]; rfl
    have e7 : ((0 : Int) == 0) = true := by decide
    clear hE2 hf0
    go_quiet (fail)
    clear e5 e9
    go_wp2
    go_ret
    exact ⟨rfl, below_drewN hB6 _⟩
  have e7 : (pf == 0) = false := beq_eq_false_iff_ne.2 hpf
  by_cases hlt : fin < pf
  · have e8 : decide (fin < pf) = true := decide_eq_true hlt
    obtain rfl : E = 7 := by rw [hE2.out]; rw [show ordB (some ⟨yw, pf, yr⟩) ⟨who, fin, rk⟩ = ((fin != 0) && ((pf == 0) || decide (fin < pf))) from rfl, e6, e7, e8]; rfl
    clear hE2 hf0 hpf hlt
    go_quiet (fail)
    clear e5 e9 e8
    go_wp2
    go_ret
    exact ⟨rfl, below_drewN hB6 _⟩
  · have e8 : decide (fin < pf) = false := decide_eq_false hlt
    obtain rfl : E = 0 := by rw [hE2.out]; rw [show ordB (some ⟨yw, pf, yr⟩) ⟨who, fin, rk⟩ = ((fin != 0) && ((pf == 0) || decide (fin < pf))) from rfl, e6, e7, e8]; rfl
    clear hE2 hf0 hpf hlt
    go_quiet (fail)
    clear e5 e9 e8
    go_wp2
    go_ret
    exact ⟨rfl, below_drewN hB6 _⟩
set_option maxHeartbeats 6400000 in
set_option maxRecDepth 100000 in
theorem checkPlacesX_c (f : Fl) (hf : FlOk f) (A : Option Addr) (n c : Nat) (p : List Pc) (w : World) (h : RPc w A n p) :
    Calls Tryz.prog 191 #[f.val, .slice A n c] w fun e w' => e = .returned (.int .i64 (placesErr f p)) ∧ Below w.heap.size w w' := by
  have hCP := Lib.hid (fun k x hk W h hx hn => checkPlaceX_c f hf A n c p k x hk W h hx hn)
  have hR := Lib.hid (fun W B => h.below (w' := W) B)
  have hE := Lib.hid (show placesErr f p = if 300 < n then 2 else placesGo f [] false [] none p by unfold placesErr; rw [h.len])
  have hGa := Lib.hid (fun seen tw k x (h : p[k]? = some x) => placesGo_at (f := f) seen tw h)
  have hG0 := Lib.hid (fun seen (tw : Bool) pre o => show placesGo f seen tw pre o [] = if tw then 6 else 0 from rfl)
  have hPo := Lib.hid (fun o x (h : pcErr f o x = 0) => pcErr_ok h)
  have hl := Lib.hid h.len
  have htk := Lib.hid (fun k (x : Pc) (hx : p[k]? = some x) => show p.take (k + 1) = p.take k ++ [x] by rw [List.take_add_one, hx]; rfl)
  have hsz : f.sz ≤ 10 := hf.1.2
  have hsz0 : 1 ≤ f.sz := hf.1.1
  have hmn : f.mn ≤ 5 := hf.2.1.2
  have hF0 : FinB w.heap.size f (w.alloc (.cells f.cells 128)) := heap_alloc_new w _
  have hB0 := below_new w (.cells f.cells 128)
  generalize placesErr f p = E at *
  by_cases hbig : 300 < n
  · obtain rfl : E = 2 := by rw [hE.out, if_pos hbig]
    have q0 : (300 : Int) < (n : Int) := by omega
    clear hE hGa hG0 hPo hCP hbig
    obtain ⟨sz, mn, rs⟩ := f
    dsimp only [Fl.val, Fl.cells] at *
    clear hf
    go_enter Tryz.func191, Tryz.ntmps191
    go_wp2
    go_ret
    exact ⟨rfl, hB0⟩
  have hn : n ≤ 300 := by omega
  have hE2 := Lib.hid (show E = placesGo f [] false [] none p by rw [hE.out, if_neg hbig])
  have K0 : PM w f (w.heap.size + 1) (w.heap.size + 1 + 1) 0 0 (.map []) (.map []) (((w.alloc (.cells f.cells 128)).alloc (.map #[] 0)).alloc (.map #[] 0)) := by
    have h1 : MII ((w.alloc (.cells f.cells 128)).alloc (.map #[] 0)) (w.alloc (.cells f.cells 128)).heap.size 0 (.map []) := World.ownsMap_made _ _ _ _
    have h2 := mb_new ((w.alloc (.cells f.cells 128)).alloc (.map #[] 0))
    simp only [alloc_size] at h1 h2
    exact ⟨h1.alloc _, h2, blk_alloc (blk_alloc hF0 _) _, Nat.lt_succ_self _, Nat.lt_succ_self _, (hB0.alloc hB0.size _).alloc (by simp; omega) _, by simp⟩
  have hmm := @run_makeMap Tryz.prog
  have q0 : ¬ (300 : Int) < (n : Int) := by omega
  have hFa := Lib.hid (fun b1 b2 q1 q2 D1 D2 v (h : PM w f b1 b2 q1 q2 D1 D2 v) => h.fb.at_)
  clear h hF0 hB0 hE hbig
  generalize placesGo f = SG at *
  generalize hpe : pcErr f = PE at *
  clear hpe
  obtain ⟨sz, mn, rs⟩ := f
  dsimp only [Fl.val, Fl.cells] at *
  clear hf
  go_enter Tryz.func191, Tryz.ntmps191
  go_wp2_with fail
  generalize ((w.alloc (.cells #[.int .i64 sz, .int .i64 mn, .int .i64 rs] 128)).alloc (.map #[] 0)).alloc (.map #[] 0) = w3 at *
  generalize hb1 : w.heap.size + 1 = b1 at *
  go_loopw [7, 18] (fun tv i wr => ∃ (k q1 q2 : Nat) (D1 D2 : DataW Unit) (seen : List ByteArray) (tw : Bool), k ≤ n ∧ i = .int .i64 k ∧ tv = .bool tw ∧ q1 ≤ k ∧ q2 ≤ k ∧ PM w ⟨sz, mn, rs⟩ b1 (b1 + 1) q1 q2 D1 D2 wr ∧ Hid (CntM D1 (p.take k)) ∧ Hid (SeenM D2 seen) ∧ Hid (SG seen tw (p.take k) (prevPc p k) (p.drop k) = SG [] false [] none p)) (fun _ i _ => n - (intOf i).toNat)
  case atStart => exact ⟨0, 0, 0, .map [], .map [], [], false, Nat.zero_le _, rfl, rfl, Nat.le_refl _, Nat.le_refl _, K0, Lib.hid CntM.nil, Lib.hid SeenM.nil, Lib.hid (by rw [List.drop_zero]; rfl)⟩
  case round =>
    clear K0
    obtain ⟨k, u1, u2, D1, D2, seen, tw, hk, rfl, rfl, hq1, hq2, K, hC, hS, hG⟩ := hrel
    by_cases hlt : k < n
    · obtain ⟨b, off, x, rfl, hbl, hx, c0, c1, c2⟩ := RPc_at3 (hR.out _ K.bel) hlt
      have hst := hGa.out seen tw k x hx
      rw [hG.out, ← hE2.out] at hst
      have hCPk := Lib.hid (fun W h => hCP.out k x hlt W h hx hn)
      have hpo := Lib.hid (hPo.out (prevPc p k) x)
      have hC2 := Lib.hid (show CntM (D1.put (.int .i64 x.fin) (.lit (.int .i64 ((cntF x.fin (p.take k) : Int) + 1)))) (p.take (k + 1)) by rw [htk.out k x hx]; exact hC.out.snoc x)
      have hS2 := Lib.hid (hS.out.put x.who)
      have hcl : (cntF x.fin (p.take k) : Int) ≤ 300 := by have := cntF_le x.fin (p.take k); rw [List.length_take] at this; omega
      have hc2 := Lib.hid (show (cntF x.fin (p.take (k + 1)) : Int) = cntF x.fin (p.take k) + 1 by rw [htk.out k x hx, cntF_snoc, if_pos rfl]; push_cast; rfl)
      generalize PE (prevPc p k) x = PEx at *
      obtain ⟨who, fin, rk⟩ := x
      dsimp only at *
      have hb5 := heap_alloc_new wr (.cells #[.string who, .int .i64 fin, .int .i64 rk] 144)
      have K5 := K.below (below_new wr (.cells #[.string who, .int .i64 fin, .int .i64 rk] 144))
      obtain ⟨y0, y1, y2⟩ := hFa.out _ _ _ _ _ _ _ K5
      have hlz := K.lz
      clear hx K hG
      go_wp2_with fail
      refine (hCPk.out _ (hR.out _ K5.bel)).mono ?_; rintro e w6 ⟨rfl, B6⟩
      have K6 := K5.below B6
      have hbel6 := K6.bel
      have hb6 := blk_below hb5 B6
      have lb6 := lt_of_heap hb6
      obtain ⟨y0, y1, y2⟩ := hFa.out _ _ _ _ _ _ _ K6
      have z0 := (blk_facts hb6).1 0
      have z1 := (blk_facts hb6).1 1
      clear hCPk c0 c1 c2 hb5 K5 B6
      by_cases hpe0 : PEx = 0
      rotate_left
      · obtain rfl : E = PEx := by rw [hst, if_pos hpe0]
        clear hst hC2 hS2 hc2 hcl hpo K6
        go_wp2
        go_ret
        exact ⟨rfl, hbel6⟩
      subst hpe0
      rw [if_neg (by simp)] at hst
      obtain ⟨k1, k2, k3⟩ := hpo.out rfl
      have hks := (key_small k1).2
      clear hpo k1 k3
      obtain ⟨cv, hrun, hat⟩ := mii_lookup K6.m1 fin (by omega)
      rw [hC.out.2 fin] at hat
      have hcv : (cntF fin (p.take k) : Int) = cv := by injection hat with e; injection e
      rw [hcv] at hC2 hc2 hcl hst
      have hcv0 : 0 ≤ cv := by rw [← hcv]; exact Int.natCast_nonneg _
      have hm1 := K6.m1
      have e1 : IntKind.i64.wrap (cv + 1) = cv + 1 := IntWalk.i64_in _ (by omega)
      clear hat hcv hC
      by_cases hfp : 0 < fin
      · by_cases hov : sz < cv + 1
        · obtain rfl : E = 12 := by rw [hst, if_pos ⟨hfp, hov⟩]
          clear hst
          have hst : True := trivial
          have e7 : decide (sz < cv + 1) = true := decide_eq_true hov
          go_wp2_with (first
        | (at_mapUpdate; refine wpList_mapUpdate_own _ rfl _ _ _ 264 rfl 3 3 (int_keyed Tryz.underlying3) Tryz.underlying264 _ _ u1 _ rfl hm1 (by unfold maxLen; omega) _ _ _ rfl rfl (keyOf_int_mk (a := fin) Tryz.underlying3 (by simp [Lit.wf, IntKind.min, IntKind.max, IntKind.signed, IntKind.bits]; omega)) _ [] (plainElem_int Tryz.underlying3 (by simp [Lit.wf, IntKind.min, IntKind.max, IntKind.signed, IntKind.bits]; omega)) ?_; intro w7 hown7 hg7; have K7 := K6.put1 hown7 hg7; have hb7 := blk_grown hb6 hg7 (fun e => by injection e with e; omega); obtain ⟨y0, y1, y2⟩ := hFa.out _ _ _ _ _ _ _ K7; have z0 := (blk_facts hb7).1 0; have z1 := (blk_facts hb7).1 1; obtain ⟨c7, hrun7, hat7⟩ := mii_lookup K7.m1 fin (by omega); rw [hC2.out.2 fin, hc2.out] at hat7; have hc7 : cv + 1 = c7 := (by injection hat7 with e; injection e); subst hc7; obtain ⟨v7, hrun8, hat8⟩ := mb_lookup K7.m2 who (by unfold maxLen; omega); rw [hS.out.2 who] at hat8; have hv7 : seenB who seen = v7 := (by injection hat8 with e; injection e); have hm2 := K7.m2; have hbel7 := K7.bel; clear hat7 hat8 hrun)
        | (at_mapUpdate; refine wpList_mapUpdate_own _ rfl _ _ _ 250 rfl 9 4 (string_keyed Tryz.underlying9) Tryz.underlying250 _ _ u2 _ rfl hm2 (by unfold maxLen; omega) _ _ _ rfl rfl (keyOf_string_mk Tryz.underlying9 (by unfold maxLen; omega)) _ [] (plainElem_bool Tryz.underlying4 true) ?_; intro w8 hown8 hg8; have K8 := K7.put2 hown8 hg8))
          go_ret
          exact ⟨rfl, hbel7⟩
        have hst := Lib.hid (show SG (who :: seen) (tw || seenB who seen) (p.take (k + 1)) (prevPc p (k + 1)) (p.drop (k + 1)) = E by rw [hst, if_neg (fun h => hov h.2)])
        have e7 : decide (sz < cv + 1) = false := decide_eq_false hov
        clear hov
        cases tw
        · go_wp2_with (first
        | (at_mapUpdate; refine wpList_mapUpdate_own _ rfl _ _ _ 264 rfl 3 3 (int_keyed Tryz.underlying3) Tryz.underlying264 _ _ u1 _ rfl hm1 (by unfold maxLen; omega) _ _ _ rfl rfl (keyOf_int_mk (a := fin) Tryz.underlying3 (by simp [Lit.wf, IntKind.min, IntKind.max, IntKind.signed, IntKind.bits]; omega)) _ [] (plainElem_int Tryz.underlying3 (by simp [Lit.wf, IntKind.min, IntKind.max, IntKind.signed, IntKind.bits]; omega)) ?_; intro w7 hown7 hg7; have K7 := K6.put1 hown7 hg7; have hb7 := blk_grown hb6 hg7 (fun e => by injection e with e; omega); obtain ⟨y0, y1, y2⟩ := hFa.out _ _ _ _ _ _ _ K7; have z0 := (blk_facts hb7).1 0; have z1 := (blk_facts hb7).1 1; obtain ⟨c7, hrun7, hat7⟩ := mii_lookup K7.m1 fin (by omega); rw [hC2.out.2 fin, hc2.out] at hat7; have hc7 : cv + 1 = c7 := (by injection hat7 with e; injection e); subst hc7; obtain ⟨v7, hrun8, hat8⟩ := mb_lookup K7.m2 who (by unfold maxLen; omega); rw [hS.out.2 who] at hat8; have hv7 : seenB who seen = v7 := (by injection hat8 with e; injection e); have hst2 := Lib.hid (show SG (who :: seen) v7 (p.take (k + 1)) (prevPc p (k + 1)) (p.drop (k + 1)) = E from (by have h9 := hst.out; rw [hv7, Bool.false_or] at h9; exact h9)); have hm2 := K7.m2; have hbel7 := K7.bel; clear hat7 hat8 hrun)
        | (at_mapUpdate; refine wpList_mapUpdate_own _ rfl _ _ _ 250 rfl 9 4 (string_keyed Tryz.underlying9) Tryz.underlying250 _ _ u2 _ rfl hm2 (by unfold maxLen; omega) _ _ _ rfl rfl (keyOf_string_mk Tryz.underlying9 (by unfold maxLen; omega)) _ [] (plainElem_bool Tryz.underlying4 true) ?_; intro w8 hown8 hg8; have K8 := K7.put2 hown8 hg8))
          go_roundw
          case rel => exact ⟨k + 1, u1 + 1, u2 + 1, _, _, who :: seen, v7, by omega, by go_num, rfl, by omega, by omega, K8, hC2, hS2, Lib.hid (by rw [← hE2.out, ← hst2.out])⟩
          case measure => simp [intOf]; omega
        · go_wp2_with (first
        | (at_mapUpdate; refine wpList_mapUpdate_own _ rfl _ _ _ 264 rfl 3 3 (int_keyed Tryz.underlying3) Tryz.underlying264 _ _ u1 _ rfl hm1 (by unfold maxLen; omega) _ _ _ rfl rfl (keyOf_int_mk (a := fin) Tryz.underlying3 (by simp [Lit.wf, IntKind.min, IntKind.max, IntKind.signed, IntKind.bits]; omega)) _ [] (plainElem_int Tryz.underlying3 (by simp [Lit.wf, IntKind.min, IntKind.max, IntKind.signed, IntKind.bits]; omega)) ?_; intro w7 hown7 hg7; have K7 := K6.put1 hown7 hg7; have hb7 := blk_grown hb6 hg7 (fun e => by injection e with e; omega); obtain ⟨y0, y1, y2⟩ := hFa.out _ _ _ _ _ _ _ K7; have z0 := (blk_facts hb7).1 0; have z1 := (blk_facts hb7).1 1; obtain ⟨c7, hrun7, hat7⟩ := mii_lookup K7.m1 fin (by omega); rw [hC2.out.2 fin, hc2.out] at hat7; have hc7 : cv + 1 = c7 := (by injection hat7 with e; injection e); subst hc7; obtain ⟨v7, hrun8, hat8⟩ := mb_lookup K7.m2 who (by unfold maxLen; omega); rw [hS.out.2 who] at hat8; have hv7 : seenB who seen = v7 := (by injection hat8 with e; injection e); have hst2 := Lib.hid (show SG (who :: seen) true (p.take (k + 1)) (prevPc p (k + 1)) (p.drop (k + 1)) = E from (by have h9 := hst.out; rw [Bool.true_or] at h9; exact h9)); have hm2 := K7.m2; have hbel7 := K7.bel; clear hat7 hat8 hrun)
        | (at_mapUpdate; refine wpList_mapUpdate_own _ rfl _ _ _ 250 rfl 9 4 (string_keyed Tryz.underlying9) Tryz.underlying250 _ _ u2 _ rfl hm2 (by unfold maxLen; omega) _ _ _ rfl rfl (keyOf_string_mk Tryz.underlying9 (by unfold maxLen; omega)) _ [] (plainElem_bool Tryz.underlying4 true) ?_; intro w8 hown8 hg8; have K8 := K7.put2 hown8 hg8))
          go_roundw
          case rel => exact ⟨k + 1, u1 + 1, u2 + 1, _, _, who :: seen, true, by omega, by go_num, rfl, by omega, by omega, K8, hC2, hS2, Lib.hid (by rw [← hE2.out, ← hst2.out])⟩
          case measure => simp [intOf]; omega
      · have hst := Lib.hid (show SG (who :: seen) (tw || seenB who seen) (p.take (k + 1)) (prevPc p (k + 1)) (p.drop (k + 1)) = E by rw [hst, if_neg (fun h => hfp h.1)])
        have e7 : decide (0 < fin) = false := decide_eq_false hfp
        cases tw
        · go_wp2_with (first
        | (at_mapUpdate; refine wpList_mapUpdate_own _ rfl _ _ _ 264 rfl 3 3 (int_keyed Tryz.underlying3) Tryz.underlying264 _ _ u1 _ rfl hm1 (by unfold maxLen; omega) _ _ _ rfl rfl (keyOf_int_mk (a := fin) Tryz.underlying3 (by simp [Lit.wf, IntKind.min, IntKind.max, IntKind.signed, IntKind.bits]; omega)) _ [] (plainElem_int Tryz.underlying3 (by simp [Lit.wf, IntKind.min, IntKind.max, IntKind.signed, IntKind.bits]; omega)) ?_; intro w7 hown7 hg7; have K7 := K6.put1 hown7 hg7; have hb7 := blk_grown hb6 hg7 (fun e => by injection e with e; omega); obtain ⟨y0, y1, y2⟩ := hFa.out _ _ _ _ _ _ _ K7; have z0 := (blk_facts hb7).1 0; have z1 := (blk_facts hb7).1 1; obtain ⟨c7, hrun7, hat7⟩ := mii_lookup K7.m1 fin (by omega); rw [hC2.out.2 fin, hc2.out] at hat7; have hc7 : cv + 1 = c7 := (by injection hat7 with e; injection e); subst hc7; obtain ⟨v7, hrun8, hat8⟩ := mb_lookup K7.m2 who (by unfold maxLen; omega); rw [hS.out.2 who] at hat8; have hv7 : seenB who seen = v7 := (by injection hat8 with e; injection e); have hst2 := Lib.hid (show SG (who :: seen) v7 (p.take (k + 1)) (prevPc p (k + 1)) (p.drop (k + 1)) = E from (by have h9 := hst.out; rw [hv7, Bool.false_or] at h9; exact h9)); have hm2 := K7.m2; have hbel7 := K7.bel; clear hat7 hat8 hrun)
        | (at_mapUpdate; refine wpList_mapUpdate_own _ rfl _ _ _ 250 rfl 9 4 (string_keyed Tryz.underlying9) Tryz.underlying250 _ _ u2 _ rfl hm2 (by unfold maxLen; omega) _ _ _ rfl rfl (keyOf_string_mk Tryz.underlying9 (by unfold maxLen; omega)) _ [] (plainElem_bool Tryz.underlying4 true) ?_; intro w8 hown8 hg8; have K8 := K7.put2 hown8 hg8))
          go_roundw
          case rel => exact ⟨k + 1, u1 + 1, u2 + 1, _, _, who :: seen, v7, by omega, by go_num, rfl, by omega, by omega, K8, hC2, hS2, Lib.hid (by rw [← hE2.out, ← hst2.out])⟩
          case measure => simp [intOf]; omega
        · go_wp2_with (first
        | (at_mapUpdate; refine wpList_mapUpdate_own _ rfl _ _ _ 264 rfl 3 3 (int_keyed Tryz.underlying3) Tryz.underlying264 _ _ u1 _ rfl hm1 (by unfold maxLen; omega) _ _ _ rfl rfl (keyOf_int_mk (a := fin) Tryz.underlying3 (by simp [Lit.wf, IntKind.min, IntKind.max, IntKind.signed, IntKind.bits]; omega)) _ [] (plainElem_int Tryz.underlying3 (by simp [Lit.wf, IntKind.min, IntKind.max, IntKind.signed, IntKind.bits]; omega)) ?_; intro w7 hown7 hg7; have K7 := K6.put1 hown7 hg7; have hb7 := blk_grown hb6 hg7 (fun e => by injection e with e; omega); obtain ⟨y0, y1, y2⟩ := hFa.out _ _ _ _ _ _ _ K7; have z0 := (blk_facts hb7).1 0; have z1 := (blk_facts hb7).1 1; obtain ⟨c7, hrun7, hat7⟩ := mii_lookup K7.m1 fin (by omega); rw [hC2.out.2 fin, hc2.out] at hat7; have hc7 : cv + 1 = c7 := (by injection hat7 with e; injection e); subst hc7; obtain ⟨v7, hrun8, hat8⟩ := mb_lookup K7.m2 who (by unfold maxLen; omega); rw [hS.out.2 who] at hat8; have hv7 : seenB who seen = v7 := (by injection hat8 with e; injection e); have hst2 := Lib.hid (show SG (who :: seen) true (p.take (k + 1)) (prevPc p (k + 1)) (p.drop (k + 1)) = E from (by have h9 := hst.out; rw [Bool.true_or] at h9; exact h9)); have hm2 := K7.m2; have hbel7 := K7.bel; clear hat7 hat8 hrun)
        | (at_mapUpdate; refine wpList_mapUpdate_own _ rfl _ _ _ 250 rfl 9 4 (string_keyed Tryz.underlying9) Tryz.underlying250 _ _ u2 _ rfl hm2 (by unfold maxLen; omega) _ _ _ rfl rfl (keyOf_string_mk Tryz.underlying9 (by unfold maxLen; omega)) _ [] (plainElem_bool Tryz.underlying4 true) ?_; intro w8 hown8 hg8; have K8 := K7.put2 hown8 hg8))
          go_roundw
          case rel => exact ⟨k + 1, u1 + 1, u2 + 1, _, _, who :: seen, true, by omega, by go_num, rfl, by omega, by omega, K8, hC2, hS2, Lib.hid (by rw [← hE2.out, ← hst2.out])⟩
          case measure => simp [intOf]; omega
    · obtain rfl : k = n := by omega
      have hbel := K.bel
      have hst := Lib.hid (show E = if tw then 6 else 0 by rw [hE2.out, ← hG.out, drop_end (by rw [hl.out]; exact Nat.le_refl _), hG0.out])
      clear K hG hC hS
      cases tw
      · obtain rfl : E = 0 := hst.out
        clear hst
        go_wp2
        go_ret
        exact ⟨rfl, hbel⟩
      · obtain rfl : E = 6 := hst.out
        clear hst
        go_wp2
        go_ret
        exact ⟨rfl, hbel⟩
structure PX (w : World) (f : Fl) (b1 q1 : Nat) (D1 : DataW Unit) (wx : World) : Prop where
  m : MII wx b1 q1 D1
  fb : FinB w.heap.size f wx
  l1 : w.heap.size < b1
  bel : Below w.heap.size w wx
  lz : b1 < wx.heap.size
section
variable {w wx w' : World} {f : Fl} {b1 q1 : Nat} {D1 : DataW Unit}
theorem PX.below (h : PX w f b1 q1 D1 wx) (B : Below wx.heap.size wx w') : PX w f b1 q1 D1 w' :=
  ⟨h.m.kept (row := none) (grown_of_below B) (by simp), h.fb.keep _ _ B, h.l1, below_next h.bel B, Nat.lt_of_lt_of_le h.lz B.size⟩
theorem PX.put (h : PX w f b1 q1 D1 wx) {q' : Nat} {D' : DataW Unit} (ho : MII w' b1 q' D') (hg : wx.grownBy w' (some b1)) : PX w f b1 q' D' w' := by
  have h1 := h.l1
  exact ⟨ho, blk_grown h.fb hg (fun e => by injection e with e; omega), h1, h.bel.trans (grown_below hg (by omega) h.bel.size), Nat.lt_of_lt_of_le h.lz hg.size⟩
end
set_option maxHeartbeats 6400000 in
set_option maxRecDepth 100000 in
theorem placesFaultX_c (f : Fl) (hf : FlOk f) (A : Option Addr) (n c : Nat) (p : List Pc) (w : World) (h : RPc w A n p) :
    Calls Tryz.prog 77 #[f.val, .slice A n c] w fun e w' => e = .returned (.int .i64 (placesErr f p)) ∧ Below w.heap.size w w' := by
  have hR := Lib.hid (fun W B => h.below (w' := W) B)
  have hE := Lib.hid (show placesErr f p = if 300 < n then 2 else placesGo f [] false [] none p by unfold placesErr; rw [h.len])
  have hGa := Lib.hid (fun seen tw k x (h : p[k]? = some x) => placesGo_at (f := f) seen tw h)
  have hG0 := Lib.hid (fun seen (tw : Bool) pre o => show placesGo f seen tw pre o [] = if tw then 6 else 0 from rfl)
  have hPo := Lib.hid (fun o x (h1 : keyB x.who = true) h2 => ordB_err (f := f) (o := o) (x := x) h1 h2)
  have hPe := Lib.hid (fun o (x : Pc) => show pcErr f o x = if keyB x.who = false then 5 else if ¬ ((0 ≤ x.fin ∧ x.fin ≤ f.mn) ∧ (1 ≤ x.rk ∧ x.rk ≤ 300)) then 1 else match o with
    | some y => if x.fin ≠ 0 ∧ (y.fin = 0 ∨ x.fin < y.fin) then 7 else 0
    | none => 0 from rfl)
  have hNm := Lib.hid (fun W h hn => placeNames_c A n c p W h hn)
  have hl := Lib.hid h.len
  have htk := Lib.hid (fun k (x : Pc) (hx : p[k]? = some x) => show p.take (k + 1) = p.take k ++ [x] by rw [List.take_add_one, hx]; rfl)
  have hsz : f.sz ≤ 10 := hf.1.2
  have hsz0 : 1 ≤ f.sz := hf.1.1
  have hmn : f.mn ≤ 5 := hf.2.1.2
  have hF0 : FinB w.heap.size f (w.alloc (.cells f.cells 128)) := heap_alloc_new w _
  have hB0 := below_new w (.cells f.cells 128)
  generalize placesErr f p = E at *
  by_cases hbig : 300 < n
  · obtain rfl : E = 2 := by rw [hE.out, if_pos hbig]
    have q0 : (300 : Int) < (n : Int) := by omega
    clear hE hGa hG0 hPo hPe hbig
    obtain ⟨sz, mn, rs⟩ := f
    dsimp only [Fl.val, Fl.cells] at *
    clear hf
    go_enter Tryz.func77, Tryz.ntmps77
    go_wp2
    go_ret
    exact ⟨rfl, hB0⟩
  have hn : n ≤ 300 := by omega
  have hE2 := Lib.hid (show E = placesGo f [] false [] none p by rw [hE.out, if_neg hbig])
  have K0 : PX w f (w.heap.size + 1) 0 (.map []) ((w.alloc (.cells f.cells 128)).alloc (.map #[] 0)) := by
    have h1 : MII ((w.alloc (.cells f.cells 128)).alloc (.map #[] 0)) (w.alloc (.cells f.cells 128)).heap.size 0 (.map []) := World.ownsMap_made _ _ _ _
    simp only [alloc_size] at h1
    exact ⟨h1, blk_alloc hF0 _, Nat.lt_succ_self _, hB0.alloc hB0.size _, by simp⟩
  have hmm := @run_makeMap Tryz.prog
  have q0 : ¬ (300 : Int) < (n : Int) := by omega
  have hFa := Lib.hid (fun b1 q1 D1 v (h : PX w f b1 q1 D1 v) => h.fb.at_)
  clear h hF0 hB0 hE hbig
  generalize placesGo f = SG at *
  generalize hpe : pcErr f = PE at *
  clear hpe
  obtain ⟨sz, mn, rs⟩ := f
  dsimp only [Fl.val, Fl.cells] at *
  clear hf
  go_enter Tryz.func77, Tryz.ntmps77
  go_wp2_with fail
  generalize (w.alloc (.cells #[.int .i64 sz, .int .i64 mn, .int .i64 rs] 128)).alloc (.map #[] 0) = w3 at *
  generalize hb1 : w.heap.size + 1 = b1 at *
  go_loopw [14] (fun i wr => ∃ (k q1 : Nat) (D1 : DataW Unit) (seen : List ByteArray) (tw : Bool), k ≤ n ∧ i = .int .i64 k ∧ q1 ≤ k ∧ PX w ⟨sz, mn, rs⟩ b1 q1 D1 wr ∧ Hid (CntM D1 (p.take k)) ∧ Hid (TwI seen tw ((p.take k).map Pc.who)) ∧ Hid (SG seen tw (p.take k) (prevPc p k) (p.drop k) = SG [] false [] none p)) (fun i _ => n - (intOf i).toNat)
  case atStart => exact ⟨0, 0, .map [], [], false, Nat.zero_le _, rfl, Nat.le_refl _, K0, Lib.hid CntM.nil, Lib.hid TwI.nil, Lib.hid (by rw [List.drop_zero]; rfl)⟩
  case round =>
    clear K0
    obtain ⟨k, u1, D1, seen, tw, hk, rfl, hq1, K, hC, hT, hG⟩ := hrel
    by_cases hlt : k < n
    · obtain ⟨b, off, x, rfl, hbl, hx, c0, c1, c2⟩ := RPc_at3 (hR.out _ K.bel) hlt
      have hst := hGa.out seen tw k x hx
      rw [hG.out, ← hE2.out] at hst
      have hpo := Lib.hid (hPo.out (prevPc p k) x)
      have hpe := Lib.hid (hPe.out (prevPc p k) x)
      have hC2 := Lib.hid (show CntM (D1.put (.int .i64 x.fin) (.lit (.int .i64 ((cntF x.fin (p.take k) : Int) + 1)))) (p.take (k + 1)) by rw [htk.out k x hx]; exact hC.out.snoc x)
      have hT2 := Lib.hid (show TwI (x.who :: seen) (tw || seenB x.who seen) ((p.take (k + 1)).map Pc.who) by rw [htk.out k x hx, List.map_append]; exact hT.out.snoc x.who)
      have hcl : (cntF x.fin (p.take k) : Int) ≤ 300 := by have := cntF_le x.fin (p.take k); rw [List.length_take] at this; omega
      have hc2 := Lib.hid (show (cntF x.fin (p.take (k + 1)) : Int) = cntF x.fin (p.take k) + 1 by rw [htk.out k x hx, cntF_snoc, if_pos rfl]; push_cast; rfl)
      generalize PE (prevPc p k) x = PEx at *
      have hprev : (k = 0 ∧ ordB (prevPc p k) x = false) ∨ (1 ≤ k ∧ ∃ pf : Int, wr.cell? ⟨b, off + (k - 1) * 3 + 1, none⟩ = some (.int .i64 pf) ∧ ordB (prevPc p k) x = ((x.fin != 0) && ((pf == 0) || decide (x.fin < pf)))) := by
        by_cases h0 : k = 0
        · exact .inl ⟨h0, by unfold prevPc; rw [if_pos h0]; rfl⟩
        · obtain ⟨b', off', y, hA, _, hy, d0, d1, d2⟩ := RPc_at3 (hR.out _ K.bel) (k := k - 1) (by omega)
          injection hA with hA
          injection hA with e1 e2
          subst e1 e2
          exact .inr ⟨by omega, y.fin, d1, by unfold prevPc; rw [if_neg h0, hy]; rfl⟩
      have hprev' := Lib.hid hprev
      clear hprev
      generalize ordB (prevPc p k) x = OB at *
      obtain ⟨who, fin, rk⟩ := x
      dsimp only at *
      have hb5 := heap_alloc_new wr (.cells #[.string who, .int .i64 fin, .int .i64 rk] 144)
      have K5 := K.below (below_new wr (.cells #[.string who, .int .i64 fin, .int .i64 rk] 144))
      obtain ⟨y0, y1, y2⟩ := hFa.out _ _ _ _ K5
      have z0 := (blk_facts hb5).1 0
      have hlz := K.lz
      have hbk7 : ∀ v, Below (wr.alloc (.cells #[.string who, .int .i64 fin, .int .i64 rk] 144)).heap.size (wr.alloc (.cells #[.string who, .int .i64 fin, .int .i64 rk] 144)) v → ∀ o u, wr.cell? ⟨b, o, none⟩ = some u → v.cell? ⟨b, o, none⟩ = some u := fun v B o u hc => ((((below_new wr _).trans (B.mono (by simp))).cell (p := ⟨b, o, none⟩) hbl)).trans hc
      have hbk8 := Lib.hid hbk7
      clear hx K hG hbk7
      have hKy := Lib.hid (key_c who (wr.alloc (.cells #[.string who, .int .i64 fin, .int .i64 rk] 144)))
      go_wp2_with fail
      refine hKy.out.mono ?_; rintro e w6 ⟨rfl, B6⟩
      have K6 := K5.below B6
      have hbel6 := K6.bel
      have hb6 := blk_below hb5 B6
      have lb6 := lt_of_heap hb6
      have hcp := Lib.hid (hbk8.out w6 B6)
      generalize wr.heap.size = b7 at *
      obtain ⟨y0, y1, y2⟩ := hFa.out _ _ _ _ K6
      have z0 := (blk_facts hb6).1 0
      have z1 := (blk_facts hb6).1 1
      have z2 := (blk_facts hb6).1 2
      clear hKy c0 c1 c2 hb5 K5 B6 hbk8
      by_cases hky : keyB who = false
      · obtain rfl : PEx = 5 := by rw [hpe.out, if_pos hky]
        obtain rfl : E = 5 := by rw [hst, if_pos (by decide)]
        rw [hky]
        clear hst hpe hpo hC2 hc2 hcl hT2 hprev' hky
        go_wp2
        go_ret
        exact ⟨rfl, hbel6⟩
      have hky1 : keyB who = true := by simpa using hky
      have hks := (key_small hky1).2
      rw [hky1]
      by_cases hrg : (0 ≤ fin ∧ fin ≤ mn) ∧ (1 ≤ rk ∧ rk ≤ 300)
      rotate_left
      · obtain rfl : PEx = 1 := by rw [hpe.out, if_neg hky, if_pos hrg]
        obtain rfl : E = 1 := by rw [hst, if_pos (by decide)]
        by_cases hr1 : 0 ≤ fin ∧ fin ≤ mn
        · have d1 : decide (0 ≤ fin ∧ fin ≤ mn) = true := decide_eq_true hr1
          have d2 : decide (1 ≤ rk ∧ rk ≤ 300) = false := decide_eq_false (fun h => hrg ⟨hr1, h⟩)
          clear hst hpe hpo hC2 hc2 hcl hT2 hprev' hky hky1 hrg hr1 K6
          go_wp2_with (go_at_call 115; refine (in_c _ _ _ _).mono ?_; rintro e w' ⟨rfl, rfl⟩; first | rw [d1] | rw [d2])
          go_ret
          exact ⟨rfl, hbel6⟩
        · have d1 : decide (0 ≤ fin ∧ fin ≤ mn) = false := decide_eq_false hr1
          clear hst hpe hpo hC2 hc2 hcl hT2 hprev' hky hky1 hrg hr1 K6
          go_wp2_with (go_at_call 115; refine (in_c _ _ _ _).mono ?_; rintro e w' ⟨rfl, rfl⟩; rw [d1])
          go_ret
          exact ⟨rfl, hbel6⟩
      have d1 : decide (0 ≤ fin ∧ fin ≤ mn) = true := decide_eq_true hrg.1
      have d2 : decide (1 ≤ rk ∧ rk ≤ 300) = true := decide_eq_true hrg.2
      have hfr : 0 ≤ fin ∧ fin ≤ 5 := ⟨hrg.1.1, by omega⟩
      have hsx := Lib.hid (hpo.out hky1 hrg)
      clear hpe hpo hky hky1 hrg
      go_upto_region 11 with (go_at_call 115; refine (in_c _ _ _ _).mono ?_; rintro e w' ⟨rfl, rfl⟩; first | rw [d1] | rw [d2])
      go_cut [37] (fun s37 wx => s37 = .bool OB ∧ PX w ⟨sz, mn, rs⟩ b1 u1 D1 wx ∧ wx.heap[b7]? = some (.cells #[.string who, .int .i64 fin, .int .i64 rk] 144 (0, 0)))
      case first =>
        have K6d := Lib.hid (fun m => K6.below (below_drewN (Below.refl w6.heap.size w6) m))
        have hb6d := Lib.hid (fun m => blk_below hb6 (below_drewN (Below.refl w6.heap.size w6) m))
        clear hst hC2 hc2 hcl hT2 hC hT hsx d1 d2
        rcases hprev'.out with ⟨h0, rfl⟩ | ⟨h1, pf, hc, rfl⟩
        · have e8 : decide (0 < k) = false := decide_eq_false (by omega)
          have e9 : decide ((0 : Int) < (k : Int)) = false := decide_eq_false (by omega)
          clear h0 hprev'
          go_wp2
          go_quiet (fail)
          go_wp2
          go_meet
          case rel => exact ⟨rfl, K6d.out _, hb6d.out _⟩
        · have hc6 := hcp.out _ _ hc
          have e1 : IntKind.i64.wrap ((k : Int) - 1) = (k : Int) - 1 := IntWalk.i64_in _ (by omega)
          have e2 : 0 ≤ (k : Int) - 1 := by omega
          have e3 : ((k : Int) - 1).toNat = k - 1 := by omega
          have e4 : (k : Int) - 1 < n := by omega
          have e5 : decide (0 < k) = true := decide_eq_true (by omega)
          have e9 : decide ((0 : Int) < (k : Int)) = true := decide_eq_true (by omega)
          clear hc hprev'
          by_cases hf0 : fin = 0
          · subst hf0
            have e6 : ((0 : Int) != 0) = false := by decide
            go_wp2
            go_quiet (fail)
            go_wp2
            go_meet
            case rel => exact ⟨by rw [e6]; rfl, K6d.out _, hb6d.out _⟩
          have e6 : (fin != 0) = true := by simpa using hf0
          by_cases hpf : pf = 0
          · subst hpf
            have e7 : ((0 : Int) == 0) = true := by decide
            clear hf0
            go_wp2
            go_quiet (fail)
            go_wp2
            go_meet
            case rel => exact ⟨by rw [e6, e7]; rfl, K6d.out _, hb6d.out _⟩
          have e7 : (pf == 0) = false := beq_eq_false_iff_ne.2 hpf
          by_cases hlt2 : fin < pf
          · have e8 : decide (fin < pf) = true := decide_eq_true hlt2
            clear hf0 hpf hlt2
            go_wp2
            go_quiet (fail)
            go_wp2
            go_meet
            case rel => exact ⟨by rw [e6, e7, e8]; rfl, K6d.out _, hb6d.out _⟩
          · have e8 : decide (fin < pf) = false := decide_eq_false hlt2
            clear hf0 hpf hlt2
            go_wp2
            go_quiet (fail)
            go_wp2
            go_meet
            case rel => exact ⟨by rw [e6, e7, e8]; rfl, K6d.out _, hb6d.out _⟩
      case rest =>
        clear K6 hb6 lb6 z0 z1 z2 y0 y1 y2 hbel6 hcp hprev'
        obtain ⟨rfl, K8, hb8⟩ := hcut
        rename World => w8
        have hbel8 := K8.bel
        cases OB
        rotate_left
        · obtain rfl : PEx = 7 := hsx.out
          obtain rfl : E = 7 := by rw [hst, if_pos (by decide)]
          clear hst hsx hC2 hc2 hT2 K8
          go_wp2
          go_ret
          exact ⟨rfl, hbel8⟩
        obtain rfl : PEx = 0 := hsx.out
        rw [if_neg (by simp)] at hst
        obtain ⟨y0, y1, y2⟩ := hFa.out _ _ _ _ K8
        have z0 := (blk_facts hb8).1 0
        have z1 := (blk_facts hb8).1 1
        obtain ⟨cv, hrun, hat⟩ := mii_lookup K8.m fin (by omega)
        rw [hC.out.2 fin] at hat
        have hcv : (cntF fin (p.take k) : Int) = cv := by injection hat with e; injection e
        rw [hcv] at hC2 hc2 hcl hst
        have hcv0 : 0 ≤ cv := by rw [← hcv]; exact Int.natCast_nonneg _
        have hm1 := K8.m
        have e1 : IntKind.i64.wrap (cv + 1) = cv + 1 := IntWalk.i64_in _ (by omega)
        clear hat hcv hC hsx
        by_cases hfp : 0 < fin
        · by_cases hov : sz < cv + 1
          · obtain rfl : E = 12 := by rw [hst, if_pos ⟨hfp, hov⟩]
            clear hst
            have e7 : decide (sz < cv + 1) = true := decide_eq_true hov
            go_wp2_with (first
        | (at_mapUpdate; refine wpList_mapUpdate_own _ rfl _ _ _ 264 rfl 3 3 (int_keyed Tryz.underlying3) Tryz.underlying264 _ _ u1 _ rfl hm1 (by unfold maxLen; omega) _ _ _ rfl rfl (keyOf_int_mk (a := fin) Tryz.underlying3 (by simp [Lit.wf, IntKind.min, IntKind.max, IntKind.signed, IntKind.bits]; omega)) _ [] (plainElem_int Tryz.underlying3 (by simp [Lit.wf, IntKind.min, IntKind.max, IntKind.signed, IntKind.bits]; omega)) ?_; intro w7 hown7 hg7; have K7 := K8.put hown7 hg7; have hb7 := blk_grown hb8 hg7 (fun e => by injection e with e; omega); obtain ⟨y0, y1, y2⟩ := hFa.out _ _ _ _ K7; have z0 := (blk_facts hb7).1 0; have z1 := (blk_facts hb7).1 1; obtain ⟨c7, hrun7, hat7⟩ := mii_lookup K7.m fin (by omega); rw [hC2.out.2 fin, hc2.out] at hat7; have hc7 : cv + 1 = c7 := (by injection hat7 with e; injection e); subst hc7; have hbel7 := K7.bel; clear hat7 hrun))
            go_ret
            exact ⟨rfl, hbel7⟩
          have hst := Lib.hid (show SG (who :: seen) (tw || seenB who seen) (p.take (k + 1)) (prevPc p (k + 1)) (p.drop (k + 1)) = E by rw [hst, if_neg (fun h => hov h.2)])
          have e7 : decide (sz < cv + 1) = false := decide_eq_false hov
          clear hov
          go_wp2_with (first
        | (at_mapUpdate; refine wpList_mapUpdate_own _ rfl _ _ _ 264 rfl 3 3 (int_keyed Tryz.underlying3) Tryz.underlying264 _ _ u1 _ rfl hm1 (by unfold maxLen; omega) _ _ _ rfl rfl (keyOf_int_mk (a := fin) Tryz.underlying3 (by simp [Lit.wf, IntKind.min, IntKind.max, IntKind.signed, IntKind.bits]; omega)) _ [] (plainElem_int Tryz.underlying3 (by simp [Lit.wf, IntKind.min, IntKind.max, IntKind.signed, IntKind.bits]; omega)) ?_; intro w7 hown7 hg7; have K7 := K8.put hown7 hg7; have hb7 := blk_grown hb8 hg7 (fun e => by injection e with e; omega); obtain ⟨y0, y1, y2⟩ := hFa.out _ _ _ _ K7; have z0 := (blk_facts hb7).1 0; have z1 := (blk_facts hb7).1 1; obtain ⟨c7, hrun7, hat7⟩ := mii_lookup K7.m fin (by omega); rw [hC2.out.2 fin, hc2.out] at hat7; have hc7 : cv + 1 = c7 := (by injection hat7 with e; injection e); subst hc7; have hbel7 := K7.bel; clear hat7 hrun))
          go_roundw
          case rel => exact ⟨k + 1, u1 + 1, _, who :: seen, tw || seenB who seen, by omega, by go_num, by omega, K7, hC2, hT2, Lib.hid (by rw [← hE2.out, ← hst.out])⟩
          case measure => simp [intOf]; omega
        · have hst := Lib.hid (show SG (who :: seen) (tw || seenB who seen) (p.take (k + 1)) (prevPc p (k + 1)) (p.drop (k + 1)) = E by rw [hst, if_neg (fun h => hfp h.1)])
          have e7 : decide (0 < fin) = false := decide_eq_false hfp
          go_wp2_with (first
        | (at_mapUpdate; refine wpList_mapUpdate_own _ rfl _ _ _ 264 rfl 3 3 (int_keyed Tryz.underlying3) Tryz.underlying264 _ _ u1 _ rfl hm1 (by unfold maxLen; omega) _ _ _ rfl rfl (keyOf_int_mk (a := fin) Tryz.underlying3 (by simp [Lit.wf, IntKind.min, IntKind.max, IntKind.signed, IntKind.bits]; omega)) _ [] (plainElem_int Tryz.underlying3 (by simp [Lit.wf, IntKind.min, IntKind.max, IntKind.signed, IntKind.bits]; omega)) ?_; intro w7 hown7 hg7; have K7 := K8.put hown7 hg7; have hb7 := blk_grown hb8 hg7 (fun e => by injection e with e; omega); obtain ⟨y0, y1, y2⟩ := hFa.out _ _ _ _ K7; have z0 := (blk_facts hb7).1 0; have z1 := (blk_facts hb7).1 1; obtain ⟨c7, hrun7, hat7⟩ := mii_lookup K7.m fin (by omega); rw [hC2.out.2 fin, hc2.out] at hat7; have hc7 : cv + 1 = c7 := (by injection hat7 with e; injection e); subst hc7; have hbel7 := K7.bel; clear hat7 hrun))
          go_roundw
          case rel => exact ⟨k + 1, u1 + 1, _, who :: seen, tw || seenB who seen, by omega, by go_num, by omega, K7, hC2, hT2, Lib.hid (by rw [← hE2.out, ← hst.out])⟩
          case measure => simp [intOf]; omega
    · obtain rfl : k = n := by omega
      have hbel := K.bel
      have hst := Lib.hid (show E = if tw then 6 else 0 by rw [hE2.out, ← hG.out, drop_end (by rw [hl.out]; exact Nat.le_refl _), hG0.out])
      have htw := Lib.hid (show tw = true ↔ ¬ (p.map Pc.who).Nodup by have h9 := hT.out.2; rw [List.take_of_length_le (by rw [hl.out]; exact Nat.le_refl _)] at h9; exact h9)
      have hNw := Lib.hid (hNm.out _ (hR.out _ hbel) (by omega))
      clear K hG hC hT hNm
      go_wp2_with fail
      refine hNw.out.mono ?_; rintro e w5 ⟨A5, n5, c5, rfl, hr5, B5⟩
      have hbel5 := below_next hbel B5
      have hTc := Lib.hid (twice_c A5 n5 c5 _ w5 hr5 (by have := hr5.bd; have := hr5.len; rw [List.length_map, hl.out] at this; omega))
      clear hNw B5 hr5
      go_wp2_with fail
      refine hTc.out.mono ?_; rintro e w6 ⟨rfl, B6⟩
      have hbel6 := below_next hbel5 B6
      cases tw
      · obtain rfl : E = 0 := hst.out
        have hd : (!decide (p.map Pc.who).Nodup) = false := by
          have : (p.map Pc.who).Nodup := Classical.not_not.1 (fun h => by have := htw.out.2 h; cases this)
          rw [decide_eq_true this]; rfl
        rw [hd]
        clear hst htw hd hTc
        go_wp2
        go_ret
        exact ⟨rfl, hbel6⟩
      · obtain rfl : E = 6 := hst.out
        have hd : (!decide (p.map Pc.who).Nodup) = true := by rw [decide_eq_false (htw.out.1 rfl)]; rfl
        rw [hd]
        clear hst htw hd hTc
        go_wp2
        go_ret
        exact ⟨rfl, hbel6⟩
end Go.Proofs.YtklggnglaeagpaaGreatDoor

/- heat.Replace of any places: its errors, its list. Made of ScrP by wip/mkplr.py. -/
namespace Go.Proofs.YtklggnglaeagpaaGreatDoor
open Go.RowKit Go.Shelf Go.Lib Go.Sort
set_option linter.unusedVariables false

set_option maxRecDepth 100000 in
theorem idxPcX_c (F : Nat) (hcf : ∀ (args : Array Value) (W : World), (callFunc F args).run Tryz.prog W = .ok (.enter F args) W) (caps : Array Value) (p : Pc → Bool) (A : Option Addr) (n c : Nat) (l : List Pc) (w : World) (h : RPc w A n l) (hP : ∀ (x : Pc), x ∈ l → ∀ W, Below w.heap.size w W → Calls Tryz.prog F (#[.agg (pcE x).toArray] ++ caps) W fun e w' => e = .returned (.bool (p x)) ∧ Below W.heap.size W w') :
    Calls Tryz.prog 272 #[.slice A n c, .func (.func F) #[] caps] w fun e w' => ∃ i : Int, e = .returned (.int .i64 i) ∧ ((i = -1 ∧ ∀ x ∈ l, p x = false) ∨ ∃ (k : Nat) (x : Pc), i = k ∧ l[k]? = some x ∧ p x = true) ∧ Below w.heap.size w w' := by
  have hz := Lib.hid hP
  have hR := Lib.hid (fun W B => h.below (w' := W) B)
  have hl := Lib.hid h.len
  have hbd := h.bd
  clear hP h
  go_enter Tryz.func272, Tryz.ntmps272
  go_wp2_with fail
  go_loopw [8] (fun i wr => ∃ k : Nat, k ≤ n ∧ i = .int .i64 k ∧ Below w.heap.size w wr ∧ Hid (∀ x ∈ l.take k, p x = false)) (fun i _ => n - (intOf i).toNat)
  case atStart => exact ⟨0, Nat.zero_le _, rfl, Below.refl _ _, Lib.hid (fun x hx => by simp at hx)⟩
  case round =>
    rename World => wr
    obtain ⟨k, hk, rfl, hB, hF⟩ := hrel
    by_cases hlt : k < n
    · obtain ⟨b, off, x, rfl, hbl, hx, c0, c1, c2⟩ := RPc_at3 (hR.out _ hB) hlt
      have hx' := Lib.hid hx
      have hzx := Lib.hid (hz.out x (List.mem_of_getElem? hx) wr hB)
      obtain ⟨pb, hpb⟩ : ∃ pb, p x = pb := ⟨_, rfl⟩
      rw [hpb] at hzx
      have hpb' := Lib.hid hpb
      obtain ⟨wo, ht, ln⟩ := x
      dsimp only [pcE] at *
      clear hx hpb
      cases pb
      · have hF2 := Lib.hid (show ∀ x ∈ l.take (k + 1), p x = false from fun x hx => by
          rw [List.take_add_one, hx'.out] at hx
          rcases List.mem_append.1 hx with hx | hx
          · exact hF.out x hx
          · simp at hx; subst hx; exact hpb'.out)
        clear hF hx' hpb'
        go_wp2_with fail
        refine hzx.out.mono ?_; rintro e w1 ⟨rfl, B1⟩
        have hB1 := below_next hB B1
        go_wp2
        go_roundw
        case rel => exact ⟨k + 1, by omega, by go_num, hB1, hF2⟩
        case measure => simp [intOf]; omega
      · go_wp2_with fail
        refine hzx.out.mono ?_; rintro e w1 ⟨rfl, B1⟩
        have hB1 := below_next hB B1
        go_wp2
        go_ret
        exact ⟨_, rfl, .inr ⟨k, _, rfl, hx'.out, hpb'.out⟩, hB1⟩
    · obtain rfl : k = n := by omega
      have hI := Lib.hid (show ∀ x ∈ l, p x = false from fun x hx => hF.out x (by rw [List.take_of_length_le (by rw [hl.out]; exact Nat.le_refl _)]; exact hx))
      go_wp2
      go_ret
      exact ⟨_, rfl, .inl ⟨rfl, hI.out⟩, hB⟩
theorem hasPcX_c (F : Nat) (hcf : ∀ (args : Array Value) (W : World), (callFunc F args).run Tryz.prog W = .ok (.enter F args) W) (caps : Array Value) (p : Pc → Bool) (A : Option Addr) (n c : Nat) (l : List Pc) (w : World) (h : RPc w A n l) (hP : ∀ (x : Pc), x ∈ l → ∀ W, Below w.heap.size w W → Calls Tryz.prog F (#[.agg (pcE x).toArray] ++ caps) W fun e w' => e = .returned (.bool (p x)) ∧ Below W.heap.size W w') :
    Calls Tryz.prog 194 #[.slice A n c, .func (.func F) #[] caps] w fun e w' => e = .returned (.bool (l.any p)) ∧ Below w.heap.size w w' := by
  have hI := Lib.hid (idxPcX_c F hcf caps p A n c l w h hP)
  clear hP h
  go_enter Tryz.func194, Tryz.ntmps194
  go_wp2_with fail
  refine hI.out.mono ?_; rintro e w1 ⟨i, rfl, hi, B1⟩
  have hi' : Hid (decide (0 ≤ i) = l.any p) := Lib.hid (by
    rcases hi with ⟨rfl, hi⟩ | ⟨k, x, rfl, hx, hp⟩
    · rw [decide_eq_false (by decide), eq_comm, List.any_eq_false]
      intro x hx
      simp [hi x hx]
    · rw [decide_eq_true (by omega), eq_comm, List.any_eq_true]
      exact ⟨_, List.mem_of_getElem? hx, hp⟩)
  clear hi
  go_wp2
  go_ret
  exact ⟨by rw [← hi'.out]; rfl, B1⟩
/-- is a start of that swimmer -/
theorem samePcX_c (x : Pc) (s : ByteArray) (b2 : Nat) (W : World) (hb : W.heap[b2]? = some (.cells #[.string s] 9 (0, 0))) :
    Calls Tryz.prog 195 (#[.agg (pcE x).toArray] ++ #[.pointer (some ⟨b2, 0, none⟩)]) W fun e w' => e = .returned (.bool (decide (x.who = s))) ∧ Below W.heap.size W w' := by
  obtain ⟨who, heat, lane⟩ := x
  dsimp only [pcE] at *
  have z0 := (blk_facts (heap_alloc_new W (.cells #[.string who, .int .i64 heat, .int .i64 lane] 144))).1 0
  have zs := (blk_facts (blk_alloc hb (.cells #[.string who, .int .i64 heat, .int .i64 lane] 144))).1 0
  have hB := below_new W (.cells #[.string who, .int .i64 heat, .int .i64 lane] 144)
  have lb := lt_of_heap hb
  clear hb
  by_cases h : who = s
  · subst h
    go_enter Tryz.func195, Tryz.ntmps195
    go_wp2
    go_ret
    exact ⟨by simp, hB⟩
  · have hn := str_ne h
    have h' := Lib.hid h
    clear h
    go_enter Tryz.func195, Tryz.ntmps195
    go_wp2
    go_ret
    exact ⟨by simp [h'.out], hB⟩
theorem any_whoPc (l : List Pc) (s : ByteArray) : (l.any fun x => decide (x.who = s)) = Lib.containsS (l.map Pc.who) s := by
  rw [Bool.eq_iff_iff, List.any_eq_true, Lib.containsS_iff, List.mem_map]
  constructor
  · rintro ⟨x, h1, h2⟩; exact ⟨x, h1, of_decide_eq_true h2⟩
  · rintro ⟨x, h1, h2⟩; exact ⟨x, h1, decide_eq_true h2⟩
theorem memberPcX_c (A : Option Addr) (n c : Nat) (l : List Pc) (s : ByteArray) (b4 : Nat) (w : World) (h : RPc w A n l) (hb : w.heap[b4]? = some (.cells #[.slice A n c] 133 (0, 0))) :
    Calls Tryz.prog 193 (#[.string s] ++ #[.pointer (some ⟨b4, 0, none⟩)]) w fun e w' => e = .returned (.bool (Lib.containsS (l.map Pc.who) s)) ∧ Below w.heap.size w w' := by
  have z4 := (blk_facts (blk_alloc hb (.cells #[.string s] 9))).1 0
  have lb := lt_of_heap hb
  have hbs := heap_alloc_new w (.cells #[.string s] 9)
  have hB := below_new w (.cells #[.string s] 9)
  have hCF := Lib.hid (hasPcX_c 195 (enters_of Tryz.func195 (by kernel_rfl) rfl) #[.pointer (some ⟨w.heap.size, 0, none⟩)] (fun x => decide (x.who = s)) A n c l _ (h.below hB) (fun x _ W B => samePcX_c x s w.heap.size W (blk_below hbs B)))
  rw [any_whoPc] at hCF
  generalize Lib.containsS (l.map Pc.who) s = R at *
  clear h hb hbs
  go_enter Tryz.func193, Tryz.ntmps193
  go_wp2_with fail
  refine hCF.out.mono ?_; rintro e w1 ⟨rfl, B1⟩
  have hB1 := below_next hB B1
  go_wp2
  go_ret
  exact ⟨rfl, hB1⟩
def rplErr (f : Fl) (p : List Pc) (who : List ByteArray) : Int := if finErr f ≠ 0 then finErr f else if placesErr f p ≠ 0 then placesErr f p else goneErr (p.map Pc.who) who
set_option maxHeartbeats 1600000 in
set_option maxRecDepth 100000 in
theorem replaceX_c (f : Fl) (A B : Option Addr) (n c m d : Nat) (p : List Pc) (who : List ByteArray) (w : World) (h : RPc w A n p) (hB : RS 9 w B m who) (hcap : (B = none ∧ m = 0 ∧ d = 0) ∨ ∃ b, B = some ⟨b, 0, none⟩ ∧ m ≤ d) :
    Calls Tryz.prog 79 #[f.val, .slice A n c, .slice B m d] w fun e w' => ∃ A' n' c', e = .returned (.tuple #[.slice A' n' c', .int .i64 (rplErr f p who)]) ∧ RPc w' A' n' (if rplErr f p who = 0 then newL p who else []) ∧ Below w.heap.size w w' := by
  by_cases hE : rplErr f p who = 0
  · have hf0 : finErr f = 0 := by
      rcases Classical.em (finErr f = 0) with h9 | h9
      · exact h9
      · unfold rplErr at hE; rw [if_pos h9] at hE; exact hE
    have hp0 : placesErr f p = 0 := by
      rcases Classical.em (placesErr f p = 0) with h9 | h9
      · exact h9
      · unfold rplErr at hE; rw [if_neg (by simp [hf0]), if_pos h9] at hE; exact hE
    have hg0 : goneErr (p.map Pc.who) who = 0 := by
      unfold rplErr at hE; rw [if_neg (by simp [hf0]), if_neg (by simp [hp0])] at hE; exact hE
    obtain ⟨g1, g2, g3⟩ := goneErr_ok hg0
    rw [hE, if_pos rfl]
    exact replaceOk_c f (finErr_ok hf0) A B n c m d p who (plsOk_of hp0) w h hB hcap (by rw [← hB.len]; exact g1) g2 g3
  · rw [if_neg hE]
    have hE' := Lib.hid (show rplErr f p who = if finErr f ≠ 0 then finErr f else if placesErr f p ≠ 0 then placesErr f p else goneErr (p.map Pc.who) who from rfl)
    have hne := Lib.hid hE
    have hCF := Lib.hid (fun W => checkFinal_c f W)
    have hCP := Lib.hid (fun (h0 : finErr f = 0) W h => checkPlacesX_c f (finErr_ok h0) A n c p W h)
    have hB1 : Below w.heap.size w ((w.alloc (.cells f.cells 128)).alloc (.cells #[.slice A n c] 133)) := below_next (below_new w (.cells f.cells 128)) (below_new _ (.cells #[.slice A n c] 133))
    have hx0 := heap_alloc_new (w.alloc (.cells f.cells 128)) (.cells #[.slice A n c] 133)
    rw [alloc_size] at hx0
    have hF0 : FinB w.heap.size f ((w.alloc (.cells f.cells 128)).alloc (.cells #[.slice A n c] 133)) := blk_alloc (heap_alloc_new w _) _
    have hWh := Lib.hid (fun W (B1 : Below w.heap.size w W) (hb : W.heap[w.heap.size + 1]? = some (.cells #[.slice A n c] 133 (0, 0))) => checkWhoG_c 193 (enters_of Tryz.func193 (by kernel_rfl) rfl) #[.pointer (some ⟨w.heap.size + 1, 0, none⟩)] B m d (p.map Pc.who) who W (hB.below B1) hcap (fun s W2 B2 => memberPcX_c A n c p s (w.heap.size + 1) W2 (h.below (B1.trans (B2.mono B1.size))) (blk_below hb B2)))
    have hR := Lib.hid (fun W B => h.below (w' := W) B)
    generalize rplErr f p who = E at *
    generalize goneErr (p.map Pc.who) who = GE at *
    generalize placesErr f p = PE at *
    have hFE := Lib.hid (fun h => show FlOk f from finErr_ok h)
    generalize finErr f = FE at *
    have hFk := Lib.hid (fun a v (h : FinB w.heap.size f a) B => FinB.keep a v h B)
    have hFa := Lib.hid (fun v (h : FinB w.heap.size f v) => h.at_)
    obtain ⟨z0, z1, z2⟩ := hFa.out _ hF0
    have hb1 := (blk_facts hx0).1 0
    clear h hB hE
    obtain ⟨sz, mn, rs⟩ := f
    dsimp only [Fl.val, Fl.cells] at *
    go_enter Tryz.func79, Tryz.ntmps79
    go_wp2_with fail
    refine (hCF.out _).mono ?_; rintro e w1 ⟨rfl, B1⟩
    have hB2 := below_next hB1 B1
    have hx1 := blk_below hx0 B1
    have hF1 := hFk.out _ _ hF0 B1
    clear hB1 hx0 hCF B1 hF0 z0 z1 z2 hb1
    by_cases h0 : FE = 0
    rotate_left
    · obtain rfl : E = FE := by rw [hE'.out, if_pos h0]
      have hd : (E != 0) = true := by simpa using h0
      have h0' := Lib.hid h0
      clear h0 hE' hWh
      go_wp2
      go_ret2
      exact ⟨none, 0, 0, rfl, RN.nil_ _ _ _ _ _, hB2⟩
    subst h0
    have hCP2 := Lib.hid (hCP.out rfl w1 (hR.out _ hB2))
    obtain ⟨z0, z1, z2⟩ := hFa.out _ hF1
    have hb1 := (blk_facts hx1).1 0
    clear hCP
    go_wp2_with fail
    refine hCP2.out.mono ?_; rintro e w2 ⟨rfl, B2⟩
    have hB3 := below_next hB2 B2
    have hx2 := blk_below hx1 B2
    clear hB2 hx1 hCP2 B2 hF1 z0 z1 z2 hb1
    by_cases h1 : PE = 0
    rotate_left
    · obtain rfl : E = PE := by rw [hE'.out, if_neg (by simp), if_pos h1]
      have hd : (E != 0) = true := by simpa using h1
      have h1' := Lib.hid h1
      clear h1 hE' hWh
      go_wp2
      go_ret2
      exact ⟨none, 0, 0, rfl, RN.nil_ _ _ _ _ _, hB3⟩
    subst h1
    obtain rfl : E = GE := by rw [hE'.out, if_neg (by simp), if_neg (by simp)]
    have hWo := Lib.hid (hWh.out w2 hB3 hx2)
    clear hE' hWh
    go_wp2_with fail
    refine hWo.out.mono ?_; rintro e w3 ⟨rfl, B3⟩
    have hB4 := below_next hB3 B3
    have hd : (E != 0) = true := by simpa using hne.out
    clear hWo hB3 B3 hx2
    go_wp2
    go_ret2
    exact ⟨none, 0, 0, rfl, RN.nil_ _ _ _ _ _, hB4⟩
end Go.Proofs.YtklggnglaeagpaaGreatDoor

/- slices.DeleteFunc and slices.Clone of places; tumbref1.ReplaceOf. Made of ScrP by wip/mkplr.py. -/
namespace Go.Proofs.YtklggnglaeagpaaGreatDoor
open Go.RowKit Go.Shelf Go.Lib Go.Sort
set_option linter.unusedVariables false

theorem own_takePc {w : World} {base : Nat} {e : TypeId} {size g n c k : Nat} {xs : List Value} (h : w.ownsRow base e size (.slice (some ⟨g, 0, none⟩) n c) n xs) (hk : k ≤ n) : w.ownsRow base e size (.slice (some ⟨g, 0, none⟩) k c) k (xs.take (k * size)) := by
  have hl := h.1
  have hm : k * size ≤ n * size := Nat.mul_le_mul_right _ hk
  refine ⟨by rw [List.length_take]; omega, ?_⟩
  rcases h.2 with ⟨hv, _⟩ | ⟨g', cap, cur, hv, hb, hg, h1, h2, h3, h4⟩
  · cases hv
  · injection hv with q1 q2 q3
    injection q1 with q1
    injection q1 with q1
    subst q1 q3
    refine .inr ⟨g, c, cur, rfl, hb, hg, by omega, h2, h3, ?_⟩
    rw [← h4, List.take_take]
    congr 1
    omega
theorem own_setCellsPc {base : Nat} {e : TypeId} {size g n c : Nat} {xs : List Value} : ∀ (vs : List Value) (o : Nat) (w : World), w.ownsRow base e size (.slice (some ⟨g, 0, none⟩) n c) n xs → n * size ≤ o → (w.setCells g o vs).ownsRow base e size (.slice (some ⟨g, 0, none⟩) n c) n xs ∧ w.grownBy (w.setCells g o vs) (some g)
  | [], _, w, h, _ => ⟨h, grown_refl _ _⟩
  | v :: r, o, w, h, ho => by
    obtain ⟨h1, h2⟩ := h.stored o v
    rw [List.set_eq_of_length_le (by rw [h.1]; exact ho)] at h1
    obtain ⟨h3, h4⟩ := own_setCellsPc r (o + 1) _ h1 (by omega)
    exact ⟨h3, grown_trans h2 h4⟩
theorem flat_takePc : ∀ (R : List Pc) (i : Nat), (R.flatMap pcE).take (i * 3) = (R.take i).flatMap pcE
  | _, 0 => by simp
  | [], i + 1 => by simp
  | x :: r, i + 1 => by
    rw [List.take_succ_cons, List.flatMap_cons, List.flatMap_cons, ← flat_takePc r i, show (i + 1) * 3 = i * 3 + 3 by omega]
    rfl
theorem zc_onePc (n : Nat) : ∀ v ∈ (Builtin.zeroCells (Value.agg #[.string ⟨#[]⟩, .int .i64 0, .int .i64 0]).cells n).toList, v.oneCell' = true := by
  intro v hv
  unfold Builtin.zeroCells at hv
  rw [Array.toList_map] at hv
  obtain ⟨a, _, rfl⟩ := List.mem_map.1 hv
  show (#[Value.string ⟨#[]⟩, Value.int .i64 0, Value.int .i64 0][a % 3]!).oneCell' = true
  have h : a % 3 < 3 := Nat.mod_lt _ (by decide)
  have h2 : a % 3 = 0 ∨ a % 3 = 1 ∨ a % 3 = 2 := by omega
  rcases h2 with h | h | h <;> rw [h] <;> rfl
theorem own_blkPc {w : World} {base : Nat} {e : TypeId} {size g n c : Nat} {xs : List Value} (h : w.ownsRow base e size (.slice (some ⟨g, 0, none⟩) n c) n xs) : ∃ cur, w.heap[g]? = some (.cells cur e (0, 0)) ∧ cur.size = c * size ∧ n ≤ c := by
  rcases h.2 with ⟨hv, _⟩ | ⟨g', cap, cur, hv, hb, hg, h1, h2, h3, h4⟩
  · cases hv
  · injection hv with q1 q2 q3
    injection q1 with q1
    injection q1 with q1
    subst q1 q3
    exact ⟨cur, hg, h3, h1⟩
theorem run_clearPc {P : Program} (w : World) (t e ty : TypeId) (z : Value) (ht : P.underlying t = some (.slice e)) (hv : ∀ w, (zeroValue e).run P w = .ok z w) (b o n c : Nat) (hn : 0 < n) (h1 : ∀ v ∈ (Builtin.zeroCells z.cells n).toList, v.oneCell' = true)
    (hc : ∀ j, j < (Builtin.zeroCells z.cells n).toList.length → (w.cell? ⟨b, o + j, none⟩).isSome = true) (hf : ∀ j, j < (Builtin.zeroCells z.cells n).toList.length → w.frozen? ⟨b, o + j, none⟩ = false) :
    (Builtin.clear_ #[t] ty #[.slice (some ⟨b, o, none⟩) n c]).run P w = .ok (.tuple #[]) (w.setCells b o (Builtin.zeroCells z.cells n).toList) := by
  have hst := run_storeCells_cells (P := P) b o (Builtin.zeroCells z.cells n).toList 0 w (by simpa using hc) (by simpa using hf) h1
  simp only [Nat.add_zero] at hst
  obtain ⟨m, rfl⟩ : ∃ m, n = m + 1 := ⟨n - 1, by omega⟩
  simp [Builtin.clear_, run_underlying ht, hv, hst]
theorem flat_setPc (R : List Pc) (i : Nat) (x r : Pc) (h : R[i]? = some r) : ((((R.flatMap pcE).set (i * 3) (.string x.who)).set (i * 3 + 1) (.int .i64 x.fin)).set (i * 3 + 2) (.int .i64 x.rk)) = (R.set i x).flatMap pcE := by
  have e0 := flat_set pcE_len R i r ⟨x.who, r.fin, r.rk⟩ 0 (.string x.who) h (by decide) rfl
  have hi := lt_of_at h
  have g0 : (R.set i ⟨x.who, r.fin, r.rk⟩)[i]? = some ⟨x.who, r.fin, r.rk⟩ := List.getElem?_set_self hi
  have e1 := flat_set pcE_len _ i _ ⟨x.who, x.fin, r.rk⟩ 1 (.int .i64 x.fin) g0 (by decide) rfl
  rw [List.set_set] at e1
  have g1 : (R.set i ⟨x.who, x.fin, r.rk⟩)[i]? = some ⟨x.who, x.fin, r.rk⟩ := List.getElem?_set_self hi
  have e2 := flat_set pcE_len _ i _ x 2 (.int .i64 x.rk) g1 (by decide) rfl
  rw [List.set_set] at e2
  rw [Nat.add_zero] at e0
  rw [e0, e1, e2]
theorem keep_ownPc {w w' : World} {B n size : Nat} {e : TypeId} {u : Value} {xs : List Value} (h : w.ownsRow B e size u n xs) (hg : w.grownBy w' u.ownBlock) : Keep e w w' := by
  intro b cs e' fz hne hb
  refine (hg.block b (lt_of_heap hb) (fun e0 => ?_)).trans hb
  rcases h.2 with ⟨rfl, _⟩ | ⟨g, cap, cur, rfl, _, hg', _⟩
  · simp [Value.ownBlock] at e0
  · simp only [Value.ownBlock, Option.some.injEq] at e0
    subst e0
    rw [hg'] at hb
    injection hb with hb
    injection hb with _ h3
    exact hne h3.symm
def IdxPc (p : Pc → Bool) (l : List Pc) (n : Nat) (i : Int) : Prop := (i = -1 ∧ ∀ x ∈ l, p x = false) ∨ ∃ k : Nat, i = (k : Int) ∧ k < n ∧ (∃ x, l[k]? = some x ∧ p x = true) ∧ ∀ x ∈ l.take k, p x = false
set_option maxRecDepth 100000 in
theorem indexDPc_c (p : Pc → Bool) (p1 : Nat) (A : Option Addr) (n c : Nat) (l : List Pc) (w : World) (h : RPc w A n l) (hP : ∀ (x : Pc) W, Below w.heap.size w W → Calls Tryz.prog 198 #[.agg (pcE x).toArray, .pointer (some ⟨p1, 0, none⟩)] W fun e w' => e = .returned (.bool (p x)) ∧ Below W.heap.size W w') :
    Calls Tryz.prog 272 #[.slice A n c, .func (.func 198) #[] #[.pointer (some ⟨p1, 0, none⟩)]] w fun e w' => ∃ i, e = .returned (.int .i64 i) ∧ IdxPc p l n i ∧ Below w.heap.size w w' := by
  have hz := Lib.hid (fun x W B => hP x W B)
  have hR := Lib.hid (fun W B => h.below (w' := W) B)
  have hl := Lib.hid h.len
  have hbd := h.bd
  clear hP h
  go_enter Tryz.func272, Tryz.ntmps272
  go_wp2_with fail
  go_loopw [8] (fun i wr => ∃ k : Nat, k ≤ n ∧ i = .int .i64 k ∧ Below w.heap.size w wr ∧ Hid (∀ x ∈ l.take k, p x = false)) (fun i _ => n - (intOf i).toNat)
  case atStart => exact ⟨0, Nat.zero_le _, rfl, Below.refl _ _, Lib.hid (fun x hx => by simp at hx)⟩
  case round =>
    rename World => wr
    obtain ⟨k, hk, rfl, hB, hF⟩ := hrel
    by_cases hlt : k < n
    · obtain ⟨b, off, x, rfl, hbl, hx, c0, c1, c2⟩ := RPc_at3 (hR.out _ hB) hlt
      have hx' := Lib.hid hx
      have hzx := Lib.hid (hz.out x wr hB)
      have hpx := Lib.hid (show p x = p x from rfl)
      obtain ⟨pb, hpb⟩ : ∃ pb, p x = pb := ⟨_, rfl⟩
      rw [hpb] at hzx
      have hpb' := Lib.hid hpb
      obtain ⟨who, heat, lane⟩ := x
      dsimp only [pcE] at *
      clear hx hpb hpx
      cases pb
      · have hF2 := Lib.hid (show ∀ x ∈ l.take (k + 1), p x = false from fun x hx => by
          rw [List.take_add_one, hx'.out] at hx
          rcases List.mem_append.1 hx with hx | hx
          · exact hF.out x hx
          · simp at hx; subst hx; exact hpb'.out)
        clear hF hx' hpb'
        go_wp2_with fail
        refine hzx.out.mono ?_; rintro e w1 ⟨rfl, B1⟩
        have hB1 := below_next hB B1
        go_wp2
        go_roundw
        case rel => exact ⟨k + 1, by omega, by go_num, hB1, hF2⟩
        case measure => simp [intOf]; omega
      · have hI := Lib.hid (show IdxPc p l n (k : Int) from .inr ⟨k, rfl, hlt, ⟨_, hx'.out, hpb'.out⟩, hF.out⟩)
        clear hF hx' hpb'
        go_wp2_with fail
        refine hzx.out.mono ?_; rintro e w1 ⟨rfl, B1⟩
        have hB1 := below_next hB B1
        go_wp2
        go_ret
        exact ⟨_, rfl, hI.out, hB1⟩
    · obtain rfl : k = n := by omega
      have hI := Lib.hid (show IdxPc p l k (-1) from .inl ⟨rfl, fun x hx => hF.out x (by rw [List.take_of_length_le (by rw [hl.out]; exact Nat.le_refl _)]; exact hx)⟩)
      go_wp2
      go_ret
      exact ⟨_, rfl, hI.out, hB⟩
theorem strikePc (p : Pc → Bool) (R l : List Pc) (i j : Nat) (x : Pc) (hR : R.take i = (l.take j).filter fun y => !p y) (hD : R.drop j = l.drop j) (hij : i ≤ j) (hx : l[j]? = some x) (hl : R.length = l.length) :
    (p x = true → R.take i = (l.take (j + 1)).filter fun y => !p y) ∧ (p x = false → (R.set i x).take (i + 1) = (l.take (j + 1)).filter fun y => !p y) ∧ R.drop (j + 1) = l.drop (j + 1) ∧ (R.set i x).drop (j + 1) = l.drop (j + 1) := by
  have hj := lt_of_at hx
  have ht : (l.take (j + 1)).filter (fun y => !p y) = (l.take j).filter (fun y => !p y) ++ if p x = false then [x] else [] := by
    rw [List.take_add_one, hx, List.filter_append]
    congr 1
    by_cases h : p x = true <;> simp [h]
  have hd : R.drop (j + 1) = l.drop (j + 1) := by
    have h1 : (R.drop j).drop 1 = (l.drop j).drop 1 := by rw [hD]
    rw [List.drop_drop, List.drop_drop] at h1
    exact h1
  refine ⟨fun h => by rw [ht, if_neg (by simp [h]), List.append_nil, hR], fun h => ?_, hd, ?_⟩
  · rw [ht, if_pos h, List.take_add_one, List.getElem?_set_self (by omega), List.take_set_of_le (Nat.le_refl _), hR]
    rfl
  · rw [List.drop_set_of_lt (by omega)]
    exact hd
set_option maxHeartbeats 3200000 in
set_option maxRecDepth 100000 in
theorem deletePc_c (p : Pc → Bool) (p1 : Nat) (base : Nat) (u : Value) (n : Nat) (l : List Pc) (w : World) (hown : w.ownsRow base 144 3 u n (l.flatMap pcE)) (hn : n ≤ 1000) (hbw : base ≤ w.heap.size) (hP : ∀ (x : Pc) W, Keep 144 w W → Below base w W → Calls Tryz.prog 198 #[.agg (pcE x).toArray, .pointer (some ⟨p1, 0, none⟩)] W fun e w' => e = .returned (.bool (p x)) ∧ Below W.heap.size W w') :
    Calls Tryz.prog 196 #[u, .func (.func 198) #[] #[.pointer (some ⟨p1, 0, none⟩)]] w fun e w' => ∃ A' n' c', e = .returned (.slice A' n' c') ∧ w'.ownsRow base 144 3 (.slice A' n' c') n' ((l.filter fun y => !p y).flatMap pcE) ∧ n' ≤ n ∧ Below base w w' := by
  obtain ⟨A, c, rfl⟩ := own_shape hown
  have hlen := own_len pcE_len (by decide) hown
  have hR0 := RN.of_own pcE_len hown hlen (by omega)
  have hI := Lib.hid (indexDPc_c p p1 A n c l w hR0 (fun x W B => hP x W (Keep.of_below B) (B.mono hbw)))
  have hz := Lib.hid hP
  have hbel := Lib.hid (fun w' (B : Below w.heap.size w w') => show Below base w w' from B.mono hbw)
  have hkb := Lib.hid (fun w' (B : Below w.heap.size w w') => Keep.of_below (T := 144) B)
  have hlen' := Lib.hid hlen
  clear hR0 hP
  go_enter Tryz.func196, Tryz.ntmps196
  go_wp2_with fail
  refine hI.out.mono ?_; rintro e w1 ⟨i, rfl, hix, B1⟩
  have ho1 := own_below hown B1
  have hB1 := hbel.out _ B1
  have hK1 := hkb.out _ B1
  clear hI hown
  rcases hix with ⟨rfl, hall⟩ | ⟨k, rfl, hk, ⟨y, hy, hy0⟩, hall⟩
  · have hf : (l.filter fun y => !p y) = l := List.filter_eq_self.2 (fun x hx => by simpa using hall x hx)
    have hf' := Lib.hid hf
    clear hall hf hz
    go_wp2
    go_ret
    exact ⟨A, n, c, rfl, by rw [hf'.out]; exact ho1, Nat.le_refl _, hB1⟩
  · obtain ⟨g, rfl, hg⟩ := own_someN ho1 (by omega)
    have hne : ((k : Int) == -1) = false := beq_eq_false_iff_ne.2 (by omega)
    have hz1 : base ≤ w1.heap.size := Nat.le_trans hbw B1.size
    have hT0 : l.take k = (l.take (k + 1)).filter fun y => !p y := by
      rw [List.take_add_one, hy, List.filter_append, List.filter_eq_self.2 (fun x hx => by simpa using hall x hx)]
      simp [hy0]
    have hT0' := Lib.hid hT0
    clear hT0 hall hy hy0
    go_wp2_with fail
    go_loopw [5, 6] (fun iv jv wr => ∃ (i j : Nat) (R : List Pc), iv = .int .i64 i ∧ jv = .int .i64 j ∧ i < j ∧ j ≤ n ∧ Hid (R.length = n) ∧ wr.ownsRow base 144 3 (.slice (some ⟨g, 0, none⟩) n c) n (R.flatMap pcE) ∧ Below base w wr ∧ base ≤ wr.heap.size ∧ Keep 144 w wr ∧ Hid (R.take i = (l.take j).filter fun y => !p y) ∧ Hid (R.drop j = l.drop j)) (fun _ jv _ => n - (intOf jv).toNat)
    case atStart => exact ⟨k, k + 1, l, rfl, by go_num, by omega, by omega, hlen', ho1, hB1, hz1, hK1, hT0', Lib.hid rfl⟩
    case round =>
      clear ho1 hB1 hz1 hK1
      rename World => wr
      obtain ⟨i, j, R, rfl, rfl, hij, hj, hRl, hown, hB, hzz, hK, hRt, hRd⟩ := hrel
      by_cases hlt : j < n
      · obtain ⟨x, hx⟩ := at_of_lt (l := l) (k := j) (by rw [hlen'.out]; exact hlt)
        have hRx : R[j]? = some x := by
          have h1 : (R.drop j)[0]? = (l.drop j)[0]? := by rw [hRd.out]
          rw [List.getElem?_drop, List.getElem?_drop, Nat.add_zero] at h1
          rw [h1, hx]
        obtain ⟨q1, q2, q3, q4⟩ := strikePc p R l i j x hRt.out hRd.out (by omega) hx (by rw [hRl.out, hlen'.out])
        have hRR : RPc wr (some ⟨g, 0, none⟩) n R := RN.of_own pcE_len hown hRl.out (by omega)
        obtain ⟨b, off, x2, hA, hbl, hx2, c0, c1, c2⟩ := RPc_at3 hRR hlt
        injection hA with hA
        injection hA with e1 e2
        subst e1 e2
        rw [hRx] at hx2
        obtain rfl := Option.some.inj hx2
        obtain ⟨r, hr⟩ := at_of_lt (l := R) (k := i) (by rw [hRl.out]; omega)
        have hst1 := Lib.hid (flat_setPc R i x r hr)
        rw [Nat.zero_add] at c0 c1 c2
        have hn5 := heap_alloc_new wr (.cells (pcE x).toArray 144)
        have hBn := below_new wr (.cells (pcE x).toArray 144)
        have hzx := Lib.hid (hz.out x (wr.alloc (.cells (pcE x).toArray 144)) (hK.trans (Keep.of_below hBn)) (hB.trans (hBn.mono hzz)))
        obtain ⟨pb, hpb⟩ : ∃ pb, p x = pb := ⟨_, rfl⟩
        rw [hpb] at hzx q1 q2
        have hq1 := Lib.hid q1
        have hq2 := Lib.hid q2
        have hq3 := Lib.hid q3
        have hq4 := Lib.hid q4
        obtain ⟨who, heat, lane⟩ := x
        dsimp only [pcE] at *
        have hown5 := own_below hown hBn
        have hB5 := hB.trans (hBn.mono hzz)
        have hK5 := hK.trans (Keep.of_below hBn)
        have hz5 : base ≤ (wr.alloc (.cells #[.string who, .int .i64 heat, .int .i64 lane] 144)).heap.size := Nat.le_trans hzz hBn.size
        clear hx hRx hx2 hr hRR q1 q2 q3 q4 hRt hRd hown hB hpb hBn hK
        cases pb
        rotate_left
        · have hT := Lib.hid (hq1.out (by first | rfl | trivial))
          clear hq1 hq2 hq4 hst1
          go_wp2_with fail
          refine hzx.out.mono ?_; rintro e w5 ⟨rfl, B5⟩
          have hown6 := own_below hown5 B5
          have hB6 := hB5.trans (B5.mono hz5)
          have hz6 : base ≤ w5.heap.size := Nat.le_trans hz5 B5.size
          have hK6 := hK5.trans (Keep.of_below B5)
          clear hown5 B5 hB5 hn5 hK5
          go_wp2
          go_roundw
          case rel => exact ⟨i, j + 1, R, rfl, by go_num, by omega, by omega, hRl, hown6, hB6, hz6, hK6, hT, hq3⟩
          case measure => simp [intOf]; omega
        · have hT := Lib.hid (hq2.out (by first | rfl | trivial))
          clear hq1 hq2 hq3
          go_wp2_with fail
          refine hzx.out.mono ?_; rintro e w5 ⟨rfl, B5⟩
          have hown6 := own_below hown5 B5
          have hB6 := hB5.trans (B5.mono hz5)
          have hz6 : base ≤ w5.heap.size := Nat.le_trans hz5 B5.size
          have hK6 := hK5.trans (Keep.of_below B5)
          have hb6 := blk_below hn5 B5
          have y0 := (blk_facts hb6).1 0
          have y1 := (blk_facts hb6).1 1
          have y2 := (blk_facts hb6).1 2
          have f0 := hown6.frozenAt (i * 3)
          have f1 := hown6.frozenAt (i * 3 + 1)
          have f2 := hown6.frozenAt (i * 3 + 2)
          obtain ⟨b', off', r', hA', _, hr', d0, d1, d2⟩ := RPc_at3 (RN.of_own pcE_len hown6 hRl.out (by omega)) (k := i) (by omega)
          injection hA' with hA'
          injection hA' with e1 e2
          subst e1 e2
          rw [Nat.zero_add] at d0 d1 d2
          have hs1 := hown6.stored (i * 3) (.string who)
          have hs2 := hs1.1.stored (i * 3 + 1) (.int .i64 heat)
          have hs3 := hs2.1.stored (i * 3 + 2) (.int .i64 lane)
          have hgr := (grown_trans (grown_trans hs1.2 hs2.2) hs3.2)
          rw [hst1.out] at hs3
          have ho7 := hs3.1
          have hB7 := below_own hB6 hown6 hgr hz6 (Nat.le_refl _)
          have hK7 := hK6.trans (keep_ownPc hown6 hgr)
          have hz7 := Nat.le_trans hz6 hgr.size
          have hRl7 := Lib.hid (show (R.set i ⟨who, heat, lane⟩).length = n by rw [List.length_set]; exact hRl.out)
          have H7 := Lib.hid (And.intro ho7 (And.intro hB7 (And.intro hz7 hK7)))
          clear hs1 hs2 hs3 hgr ho7 hB7 hz7 hK7 hown6 hB6 hst1 hr' hK6 hown5 B5 hB5 hn5 hK5
          go_wp2
          go_roundw
          case rel => exact ⟨i + 1, j + 1, _, by go_num, by go_num, by omega, by omega, hRl7, H7.out.1, H7.out.2.1, H7.out.2.2.1, H7.out.2.2.2, hT, hq4⟩
          case measure => simp [intOf]; omega
      · obtain rfl : j = n := by omega
        have hfin : R.take i = l.filter fun y => !p y := by rw [hRt.out, List.take_of_length_le (by rw [hlen'.out]; exact Nat.le_refl _)]
        have hk := own_takePc hown (k := i) (by omega)
        have hfl : (R.flatMap pcE).take (i * 3) = (R.take i).flatMap pcE := flat_takePc R i
        rw [hfl, hfin] at hk
        have hzc : (Builtin.zeroCells (Value.agg #[.string ⟨#[]⟩, .int .i64 0, .int .i64 0]).cells (j - i)).toList.length = (j - i) * 3 := by rw [Array.length_toList, size_zeroCells]; rfl
        have hzo : ∀ v ∈ (Builtin.zeroCells (Value.agg #[.string ⟨#[]⟩, .int .i64 0, .int .i64 0]).cells (j - i)).toList, v.oneCell' = true := zc_onePc (j - i)
        obtain ⟨cur, hgb, hcs, hcap⟩ := own_blkPc hown
        have hcl : ∀ ty, (Builtin.clear_ #[133] ty #[.slice (some ⟨g, i * 3, none⟩) (j - i) (c - i)]).run Tryz.prog wr = .ok (.tuple #[]) (wr.setCells g (i * 3) (Builtin.zeroCells (Value.agg #[.string ⟨#[]⟩, .int .i64 0, .int .i64 0]).cells (j - i)).toList) :=
          fun ty => run_clearPc wr _ _ ty _ Tryz.underlying133 Tryz.zeroValue144 g (i * 3) (j - i) (c - i) (by omega) hzo (fun t ht => by rw [(blk_facts hgb).1, Array.getElem?_eq_getElem (by omega)]; rfl) (fun t ht => (blk_facts hgb).2 _)
        obtain ⟨h8, h9⟩ := own_setCellsPc (Builtin.zeroCells (Value.agg #[.string ⟨#[]⟩, .int .i64 0, .int .i64 0]).cells (j - i)).toList (i * 3) wr hk (Nat.le_refl _)
        have hB9 := below_own hB hk h9 hzz (Nat.le_refl _)
        have hci : ¬ c = i := by omega
        have j0 : (0 : Int) ≤ (i : Int) := by omega
        have j1 : (i : Int) ≤ (j : Int) := by omega
        have j2 : (j : Int) ≤ (c : Int) := by omega
        have j3 : (i : Int) ≤ (c : Int) := by omega
        generalize (Builtin.zeroCells (Value.agg #[.string ⟨#[]⟩, .int .i64 0, .int .i64 0]).cells (j - i)).toList = zcs at *
        clear hzc hzo hgb hown hk hfl hfin hRt hRd hcs
        go_wp2
        go_ret
        exact ⟨_, i, c, rfl, h8, by omega, hB9⟩
end Go.Proofs.YtklggnglaeagpaaGreatDoor

/- slices.Clone of places; tumbref1.ReplaceOf and its closure. -/
namespace Go.Proofs.YtklggnglaeagpaaGreatDoor
open Go.RowKit Go.Shelf Go.Lib Go.Sort
set_option linter.unusedVariables false

theorem pc_srcX {w : World} {A : Option Addr} {n : Nat} {l : List Pc} (h : RPc w A n l) (hp : 0 < n) : ∃ b off, A = some ⟨b, off, none⟩ ∧ ∀ j u, (l.flatMap pcE)[j]? = some u → w.cell? ⟨b, off + j, none⟩ = some u := by
  obtain ⟨b, off, cs, fz, ha, hb, hc⟩ := h.2.2 hp
  refine ⟨b, off, ha, fun j u hu => ?_⟩
  have hj := lt_of_at hu
  rw [flat_len pcE_len] at hj
  obtain ⟨x, hx⟩ := at_of_lt (l := l) (k := j / 3) (by omega)
  have hi : j % 3 < 3 := Nat.mod_lt _ (by decide)
  have e : j = (j / 3) * 3 + j % 3 := by omega
  have hf := flat_atC pcE_len l (j / 3) (j % 3) x hx hi
  rw [← e, hu] at hf
  rw [cell_of_row w b _ cs _ fz hb]
  have h9 := hc (j / 3) x hx (j % 3) u hf.symm
  rw [show off + j = off + (j / 3) * 3 + j % 3 by omega]
  exact h9
theorem pc_oneX (l : List Pc) : ∀ u ∈ l.flatMap pcE, u.oneCell' = true := by
  intro u hu
  obtain ⟨x, _, hx⟩ := List.mem_flatMap.1 hu
  simp only [pcE, List.mem_cons, List.not_mem_nil, or_false] at hx
  rcases hx with rfl | rfl | rfl <;> rfl
set_option maxRecDepth 100000 in
theorem clonePcX_c (A : Option Addr) (n c : Nat) (l : List Pc) (w : World) (h : RPc w A n l) (hn : n ≤ 1000) :
    Calls Tryz.prog 197 #[.slice A n c] w fun e w' => ∃ A' c', e = .returned (.slice A' n c') ∧ w'.ownsRow w.heap.size 144 3 (.slice A' n c') n (l.flatMap pcE) ∧ Below w.heap.size w w' := by
  rcases A with _ | ad
  · have hn0 : n = 0 := by
      rcases Nat.eq_zero_or_pos n with h0 | hp
      · exact h0
      · obtain ⟨b, off, cs, fz, e, _⟩ := h.2.2 hp; cases e
    subst hn0
    have hl : l = [] := List.eq_nil_of_length_eq_zero h.len
    subst hl
    have hnil : ∀ W, (binOp .eql 133 (.slice none 0 c) (.slice none 0 0)).run Tryz.prog W = .ok (.bool true) W := fun W => Go.Lib.run_eql_slice_nil W _ _ none 0 c 0 0 Tryz.underlying133
    go_enter Tryz.func197, Tryz.ntmps197
    go_wp2
    go_ret
    exact ⟨none, 0, rfl, World.ownsRow_nil _ _ _ _, Below.refl _ _⟩
  · have hlen := h.len
    have hB := below_new w (.cells #[] 144)
    have hz : w.heap.size ≤ (w.alloc (.cells #[] 144)).heap.size := by simp
    have hown : (w.alloc (.cells #[] 144)).ownsRow w.heap.size 144 3 (.slice (some ⟨w.heap.size, 0, none⟩) 0 0) 0 ([] : List Value) := ⟨rfl, .inr ⟨w.heap.size, 0, #[], rfl, Nat.le_refl _, heap_alloc_new w _, Nat.le_refl _, Nat.zero_le _, by simp, rfl⟩⟩
    have hs := pc_srcX (h.below hB)
    have hnil : ∀ W, (binOp .eql 133 (.slice (some ad) n c) (.slice none 0 0)).run Tryz.prog W = .ok (.bool false) W := fun W => Go.Lib.run_eql_slice_nil W _ _ (some ad) n c 0 0 Tryz.underlying133
    go_enter Tryz.func197, Tryz.ntmps197
    go_wp2_with (at_builtin; refine wpList_appR rfl (.tmp 5) (.tmp 6) 133 rfl Tryz.underlying133 info_place rfl (by omega) (by omega) hown rfl (fun e => by cases e) hs rfl (by rw [flat_len pcE_len, hlen]) (pc_oneX l) (by omega) hz ?_; intro v4 w4 hown4 hg4)
    have hB4 := below_own hB hown hg4 hz (Nat.le_refl _)
    rw [List.nil_append, Nat.zero_add] at hown4
    obtain ⟨A9, c9, rfl⟩ := own_shape hown4
    go_wp2
    go_ret
    exact ⟨A9, c9, rfl, hown4, hB4⟩
theorem rplC_c (p1 : Nat) (A : Option Addr) (n c : Nat) (a : List ByteArray) (y : Pc) (w : World) (h : RS 9 w A n a) (h1 : w.heap[p1]? = some (.cells #[.slice A n c] 97 (0, 0))) :
    Calls Tryz.prog 198 #[.agg (pcE y).toArray, .pointer (some ⟨p1, 0, none⟩)] w fun e w' => e = .returned (.bool (Lib.containsS a y.who)) ∧ Below w.heap.size w w' := by
  have hR := Lib.hid (fun W B => h.below (w' := W) B)
  have hC := Lib.hid (fun W h => containsN_c A n c a y.who W h)
  obtain ⟨who, heat, lane⟩ := y
  dsimp only [pcE] at *
  generalize Lib.containsS a who = R at *
  have hBn := below_new w (.cells #[.string who, .int .i64 heat, .int .i64 lane] 144)
  have hn0 := heap_alloc_new w (.cells #[.string who, .int .i64 heat, .int .i64 lane] 144)
  have hp1 := blk_below h1 hBn
  have a10 := (blk_facts hp1).1 0
  have x0 := (blk_facts hn0).1 0
  have hl1 := lt_of_heap h1
  clear hn0 h1 hp1 h
  go_enter Tryz.func198, Tryz.ntmps198
  go_wp2_with fail
  refine (hC.out _ (hR.out _ hBn)).mono ?_; rintro e w1 ⟨rfl, rfl⟩
  go_wp2
  go_ret
  exact ⟨rfl, hBn⟩
theorem newGo_at2 (due : List Int) {q : List Pc} {k : Nat} {x : Pc} (h : q[k]? = some x) : newGo due k (q.drop k) = ⟨x.who, due.getD k 0, x.rk⟩ :: newGo due (k + 1) (q.drop (k + 1)) := by rw [drop_at h]; rfl
/-- what ReplaceOf makes -/
def rplL (p : List Pc) (who : List ByteArray) : List Pc := newGo (p.map Pc.fin) 0 (keptL p who)
theorem kept_le (p : List Pc) (who : List ByteArray) : (keptL p who).length ≤ p.length := List.length_filter_le _ _
theorem newGo_congr {d1 d2 : List Int} : ∀ (l : List Pc) (k : Nat), (∀ j, k ≤ j → j < k + l.length → d1.getD j 0 = d2.getD j 0) → newGo d1 k l = newGo d2 k l
  | [], _, _ => rfl
  | x :: r, k, h => by
    unfold newGo
    rw [h k (Nat.le_refl _) (by simp), newGo_congr r (k + 1) (fun j h1 h2 => h j (by omega) (by simp; omega))]
/-- of right places it is what the program makes -/
theorem rplL_eq {f : Fl} {p : List Pc} (h : PlsOk f p) (who : List ByteArray) : rplL p who = newL p who := by
  unfold rplL newL
  refine newGo_congr _ _ (fun j _ hj => ?_)
  have hjl : j < p.length := by have := kept_le p who; omega
  obtain ⟨y, hy⟩ := at_of_lt hjl
  have hz : ∀ (m i : Nat) (x z : Pc), p[i]? = some x → p[i + m]? = some z → x.fin = 0 → z.fin = 0 := by
    intro m
    induction m with
    | zero => intro i x z hx hz h0; rw [Nat.add_zero, hx] at hz; obtain rfl := Option.some.inj hz; exact h0
    | succ m ih =>
      intro i x z hx hz h0
      obtain ⟨u, hu⟩ := at_of_lt (l := p) (k := i + m) (by have := (List.getElem?_eq_some_iff.1 hz).1; omega)
      have h1 := ih i x u hx hu h0
      rcases h.ord (i + m) u z hu hz with h9 | h9
      · exact h9
      · exact absurd h1 h9.1
  rw [due_get p j y (fun x hx => (h.key x hx).2.1.1) (fun i m x z him hx hz2 h0 => hz (m - i) i x z hx (by rw [show i + (m - i) = m by omega]; exact hz2) h0) hy]
  rw [List.getD_eq_getElem?_getD, List.getElem?_map, hy]
  rfl
set_option maxHeartbeats 3200000 in
set_option maxRecDepth 100000 in
theorem replaceOf_c (A B : Option Addr) (n c m d : Nat) (l : List Pc) (a : List ByteArray) (w : World) (h : RPc w A n l) (ha : RS 9 w B m a) (hn : n ≤ 1000) :
    Calls Tryz.prog 81 #[.slice A n c, .slice B m d] w fun e w' => ∃ A' n' c', e = .returned (.slice A' n' c') ∧ RPc w' A' n' (rplL l a) ∧ Below w.heap.size w w' := by
  have hB0 := below_new w (.cells #[.slice B m d] 97)
  have hx0 := heap_alloc_new w (.cells #[.slice B m d] 97)
  have hCl := Lib.hid (clonePcX_c A n c l _ (h.below hB0) (by omega))
  have hRa := Lib.hid (ha.below hB0)
  have hRl := Lib.hid (fun W B => h.below (w' := W) B)
  have hz0 : w.heap.size < (w.alloc (.cells #[.slice B m d] 97)).heap.size := by simp
  obtain ⟨LL, hLe⟩ : ∃ LL, rplL l a = LL := ⟨_, rfl⟩
  rw [hLe]
  have hL := Lib.hid (show LL = newGo (l.map Pc.fin) 0 (l.filter fun y => !Lib.containsS a y.who) from hLe.symm)
  have hkl := kept_le l a
  rw [h.len] at hkl
  have hkl' : (l.filter fun y => !Lib.containsS a y.who).length ≤ n := hkl
  clear hLe hkl
  clear ha h
  go_enter Tryz.func81, Tryz.ntmps81
  go_wp2_with fail
  refine hCl.out.mono ?_; rintro e w3 ⟨A3, c3, rfl, own3, B3⟩
  have hb3 := blk_below hx0 B3
  have hr3 := hRa.out.below B3
  have hB3 := below_next hB0 B3
  have hw3 := B3.size
  generalize w.alloc (.cells #[.slice B m d] 97) = w2 at *
  have hD := Lib.hid (deletePc_c (fun y => Lib.containsS a y.who) w.heap.size w2.heap.size _ n l w3 own3 (by omega) hw3 (fun x W hk hb => rplC_c w.heap.size B m d a x W (hRa.out.below (B3.trans hb)) (blk_below hx0 (B3.trans hb))))
  clear hCl hRa
  go_wp2_with fail
  refine hD.out.mono ?_; rintro e w4 ⟨A4, n4, c4, rfl, own4, hn4, B4⟩
  generalize (l.filter fun y => !Lib.containsS a y.who) = q at *
  have hl4 := Lib.hid (own_len pcE_len (by decide) own4)
  have hB4 := hB3.trans (B4.mono (by omega))
  have hz4 : w2.heap.size ≤ w4.heap.size := Nat.le_trans hw3 B4.size
  have hSa := Lib.hid (fun k x (hx : q[k]? = some x) => newGo_at2 (l.map Pc.fin) hx)
  have hS0 := Lib.hid (fun k => show newGo (l.map Pc.fin) k [] = [] from rfl)
  have hDg := Lib.hid (fun k y (hy : l[k]? = some y) => show (l.map Pc.fin).getD k 0 = y.fin by rw [List.getD_eq_getElem?_getD, List.getElem?_map, hy]; rfl)
  generalize newGo (l.map Pc.fin) = SG at *
  generalize l.map Pc.fin = DF at *
  clear hD own3 hr3 hb3 B3 hB3 hB0 hx0
  generalize hbs : w2.heap.size = base at *
  go_wp2_with fail
  go_loopw [13] (fun i wr => ∃ (k : Nat) (R : List Pc), k ≤ n4 ∧ i = .int .i64 k ∧ Hid (R.length = n4) ∧ wr.ownsRow base 144 3 (.slice A4 n4 c4) n4 (R.flatMap pcE) ∧ Below w.heap.size w wr ∧ base ≤ wr.heap.size ∧ Hid (R.drop k = q.drop k) ∧ Hid (R.take k ++ SG k (q.drop k) = SG 0 q)) (fun i _ => n4 - (intOf i).toNat)
  case atStart => exact ⟨0, q, Nat.zero_le _, rfl, hl4, own4, hB4, hz4, Lib.hid rfl, Lib.hid rfl⟩
  case round =>
    clear own4 hB4 hz4
    rename World => wr
    obtain ⟨k, R, hk, rfl, hRn, hown, hB, hz, hRd, hG⟩ := hrel
    by_cases hlt : k < n4
    · obtain ⟨b, rfl, hbl⟩ := own_someN hown (by omega)
      have hRR : RPc wr (some ⟨b, 0, none⟩) n4 R := RN.of_own pcE_len hown hRn.out (by omega)
      obtain ⟨b', off, x, hA, hbl', hx, c0, c1, c2⟩ := RPc_at3 hRR hlt
      injection hA with hA
      injection hA with e1 e2
      subst e1 e2
      rw [Nat.zero_add] at c0 c1 c2
      obtain ⟨bs, os, y, rfl, hbls, hy, s0, s1, s2⟩ := RPc_at3 (hRl.out _ hB) (k := k) (by omega)
      have hqx : q[k]? = some x := by
        have h1 : (R.drop k)[0]? = (q.drop k)[0]? := by rw [hRd.out]
        rw [List.getElem?_drop, List.getElem?_drop, Nat.add_zero] at h1
        rw [← h1, hx]
      have hst := Lib.hid (hSa.out k x hqx)
      rw [hDg.out k y hy] at hst
      have hfs := Lib.hid (flat_set pcE_len R k x ⟨x.who, y.fin, x.rk⟩ 1 (.int .i64 y.fin) hx (by decide) rfl)
      have htk := Lib.hid (show (R.set k ⟨x.who, y.fin, x.rk⟩).take (k + 1) = R.take k ++ [⟨x.who, y.fin, x.rk⟩] by
        rw [List.take_add_one, List.take_set_of_le (Nat.le_refl _), List.getElem?_set_self (lt_of_at hx)]; rfl)
      have hdr := Lib.hid (show (R.set k ⟨x.who, y.fin, x.rk⟩).drop (k + 1) = q.drop (k + 1) by
        rw [List.drop_set_of_lt (by omega)]
        have h1 : (R.drop k).drop 1 = (q.drop k).drop 1 := by rw [hRd.out]
        rw [List.drop_drop, List.drop_drop] at h1
        exact h1)
      obtain ⟨who, fin, rk⟩ := x
      obtain ⟨ywho, yfin, yrk⟩ := y
      dsimp only at *
      have f1 := hown.frozenAt (k * 3 + 1)
      have hs1 := hown.stored (k * 3 + 1) (.int .i64 yfin)
      rw [hfs.out] at hs1
      have H := Lib.hid (And.intro hs1.1 (And.intro (below_own hB hown hs1.2 hB.size (by omega)) (Nat.le_trans hz hs1.2.size)))
      have hG2 := Lib.hid (show (R.set k ⟨who, yfin, rk⟩).take (k + 1) ++ SG (k + 1) (q.drop (k + 1)) = SG 0 q by rw [htk.out, ← hG.out, hst.out, List.append_assoc]; rfl)
      have kn : (k : Int) < (n : Int) := by omega
      clear hx hqx hRd hown hB hz hRR hbl' hs1 hG hst hfs htk hy
      go_wp2
      go_roundw
      case rel => exact ⟨k + 1, R.set k ⟨who, yfin, rk⟩, by omega, by go_num, Lib.hid (by rw [List.length_set]; exact hRn.out), H.out.1, H.out.2.1, H.out.2.2, hdr, hG2⟩
      case measure => simp [intOf]; omega
    · obtain rfl : k = n4 := by omega
      have hRL : R = LL := by
        have h1 := hG.out
        rw [drop_end (by rw [hl4.out]; exact Nat.le_refl _), hS0.out, List.append_nil, List.take_of_length_le (by rw [hRn.out]; exact Nat.le_refl _)] at h1
        rw [h1, hL.out]
      rw [hRL] at hown hRn
      have hrs : RPc wr A4 k LL := RN.of_own pcE_len hown hRn.out (by omega)
      clear hG hown hRd
      go_wp2
      go_ret
      exact ⟨_, _, _, rfl, hrs, hB⟩
end Go.Proofs.YtklggnglaeagpaaGreatDoor

/- heat.FinalStarts of any places: its errors; tumbref1.FinalStartsFault. -/
namespace Go.Proofs.YtklggnglaeagpaaGreatDoor
open Go.RowKit
set_option linter.unusedVariables false

def fsErr (p : Pl) (f : Fl) (P : List Pc) : Int := if poolErr p ≠ 0 then poolErr p else if finErr f ≠ 0 then finErr f else if placesErr f P ≠ 0 then placesErr f P else if p.hi - p.lo + 1 < f.sz then 12 else 0
def RetFx (w : World) (p : Pl) (f : Fl) (P : List Pc) (E : Int) (e : Ending) (w' : World) : Prop := ∃ A' n' c' D, e = .returned (.tuple #[.slice A' n' c', .int .i64 E]) ∧ RSp w' A' n' D ∧ (E = 0 → SpSorted (stOut (laneV p.lo p.hi) 0 (heatsV P f.mn.toNat)) D) ∧ (E ≠ 0 → D = []) ∧ Below w.heap.size w w'
set_option maxHeartbeats 3200000 in
set_option maxRecDepth 100000 in
theorem finalStartsX_c (p : Pl) (hpb : PlBd p) (f : Fl) (A : Option Addr) (n c : Nat) (P : List Pc) (w : World) (h : RPc w A n P) :
    Calls Tryz.prog 82 #[p.val, f.val, .slice A n c] w (RetFx w p f P (fsErr p f P)) := by
  by_cases hE : fsErr p f P = 0
  · have hp0 : poolErr p = 0 := by
      rcases Classical.em (poolErr p = 0) with h9 | h9
      · exact h9
      · unfold fsErr at hE; rw [if_pos h9] at hE; exact hE
    have hf0 : finErr f = 0 := by
      rcases Classical.em (finErr f = 0) with h9 | h9
      · exact h9
      · unfold fsErr at hE; rw [if_neg (by simp [hp0]), if_pos h9] at hE; exact hE
    have hP0 : placesErr f P = 0 := by
      rcases Classical.em (placesErr f P = 0) with h9 | h9
      · exact h9
      · unfold fsErr at hE; rw [if_neg (by simp [hp0]), if_neg (by simp [hf0]), if_pos h9] at hE; exact hE
    have hs0 : ¬ (p.hi - p.lo + 1 < f.sz) := by
      intro h9
      unfold fsErr at hE; rw [if_neg (by simp [hp0]), if_neg (by simp [hf0]), if_neg (by simp [hP0]), if_pos h9] at hE; cases hE
    rw [hE]
    exact (finalStarts_c p (poolErr_ok hp0) hpb f (finErr_ok hf0) A n c P (plsOk_of hP0) w h).mono fun e w' ⟨A', n', c', D, E, he, hr, hd, hb⟩ => by
      rcases hd with ⟨h1, _⟩ | ⟨_, rfl, h2⟩
      · exact absurd h1 hs0
      · exact ⟨A', n', c', D, he, hr, fun _ => h2, fun h9 => absurd rfl h9, hb⟩
  · have hE' := Lib.hid (show fsErr p f P = if poolErr p ≠ 0 then poolErr p else if finErr f ≠ 0 then finErr f else if placesErr f P ≠ 0 then placesErr f P else if p.hi - p.lo + 1 < f.sz then 12 else 0 from rfl)
    have hne := Lib.hid hE
    have hCP := Lib.hid (fun W => checkPool_c p hpb W)
    have hCF := Lib.hid (fun W => checkFinal_c f W)
    have hCL := Lib.hid (fun (h0 : finErr f = 0) W h => checkPlacesX_c f (finErr_ok h0) A n c P W h)
    have hB1 : Below w.heap.size w ((w.alloc (.cells p.cells 131)).alloc (.cells f.cells 128)) := below_next (below_new w _) (below_new _ _)
    have hP1 : PoolB w.heap.size p ((w.alloc (.cells p.cells 131)).alloc (.cells f.cells 128)) := PoolB.keep _ _ (heap_alloc_new w _) (below_new _ _)
    have hF1 : FinB (w.heap.size + 1) f ((w.alloc (.cells p.cells 131)).alloc (.cells f.cells 128)) := by
      have := heap_alloc_new (w.alloc (.cells p.cells 131)) (.cells f.cells 128)
      rw [alloc_size] at this
      exact this
    have hR := Lib.hid (fun W B => h.below (w' := W) B)
    have hPe := Lib.hid (fun h => show PlOk p from poolErr_ok h)
    have hFe := Lib.hid (fun h => show FlOk f from finErr_ok h)
    unfold RetFx
    generalize fsErr p f P = E at *
    generalize placesErr f P = LE at *
    generalize poolErr p = PE at *
    generalize finErr f = FE at *
    have hPk := Lib.hid (fun a v (h : PoolB w.heap.size p a) B => PoolB.keep a v h B)
    have hPa := Lib.hid (fun v (h : PoolB w.heap.size p v) => h.at_)
    have hFk := Lib.hid (fun a v (h : FinB (w.heap.size + 1) f a) B => FinB.keep a v h B)
    have hFa := Lib.hid (fun v (h : FinB (w.heap.size + 1) f v) => h.at_)
    obtain ⟨y0, y1, y2, y3⟩ := hPa.out _ hP1
    obtain ⟨z0, z1, z2⟩ := hFa.out _ hF1
    clear h hE hpb
    obtain ⟨lo, hi, le, ci⟩ := p
    obtain ⟨sz, mn, rs⟩ := f
    dsimp only [Pl.val, Pl.cells, Fl.val, Fl.cells] at *
    generalize stOut (laneV lo hi) 0 (heatsV P mn.toNat) = SO at *
    go_enter Tryz.func82, Tryz.ntmps82
    go_wp2_with fail
    refine (hCP.out _).mono ?_; rintro e w2 ⟨rfl, B2⟩
    have hB2 := below_next hB1 B2
    have hP2 := hPk.out _ _ hP1 B2
    have hF2 := hFk.out _ _ hF1 B2
    clear hCP hP1 hF1 hB1 y0 y1 y2 y3 z0 z1 z2 B2
    by_cases h0 : PE = 0
    rotate_left
    · obtain rfl : E = PE := by rw [hE'.out, if_pos h0]
      have hd : (E != 0) = true := by simpa using h0
      have h0' := Lib.hid h0
      clear h0 hE'
      go_wp2
      go_ret2
      exact ⟨none, 0, 0, [], rfl, RN.nil_ _ _ _ _ _, fun h9 => absurd h9 h0'.out, fun _ => rfl, hB2⟩
    subst h0
    obtain ⟨⟨p0, p1⟩, p2, _⟩ := hPe.out rfl
    dsimp only at p0 p1 p2
    obtain ⟨y0, y1, y2, y3⟩ := hPa.out _ hP2
    obtain ⟨z0, z1, z2⟩ := hFa.out _ hF2
    go_wp2_with fail
    refine (hCF.out _).mono ?_; rintro e w3 ⟨rfl, B3⟩
    have hB3 := below_next hB2 B3
    have hP3 := hPk.out _ _ hP2 B3
    have hF3 := hFk.out _ _ hF2 B3
    clear hCF hP2 hF2 hB2 y0 y1 y2 y3 z0 z1 z2 B3
    by_cases h1 : FE = 0
    rotate_left
    · obtain rfl : E = FE := by rw [hE'.out, if_neg (by simp), if_pos h1]
      have hd : (E != 0) = true := by simpa using h1
      have h1' := Lib.hid h1
      clear h1 hE'
      go_wp2
      go_ret2
      exact ⟨none, 0, 0, [], rfl, RN.nil_ _ _ _ _ _, fun h9 => absurd h9 h1'.out, fun _ => rfl, hB3⟩
    subst h1
    obtain ⟨⟨f0, f1⟩, _⟩ := hFe.out rfl
    dsimp only at f0 f1
    have hCL2 := Lib.hid (hCL.out rfl w3 (hR.out _ hB3))
    obtain ⟨y0, y1, y2, y3⟩ := hPa.out _ hP3
    obtain ⟨z0, z1, z2⟩ := hFa.out _ hF3
    clear hCL
    go_wp2_with fail
    refine hCL2.out.mono ?_; rintro e w4 ⟨rfl, B4⟩
    have hB4 := below_next hB3 B4
    have hP4 := hPk.out _ _ hP3 B4
    have hF4 := hFk.out _ _ hF3 B4
    clear hCL2 hP3 hF3 hB3 y0 y1 y2 y3 z0 z1 z2 B4
    by_cases h2 : LE = 0
    rotate_left
    · obtain rfl : E = LE := by rw [hE'.out, if_neg (by simp), if_neg (by simp), if_pos h2]
      have hd : (E != 0) = true := by simpa using h2
      have h2' := Lib.hid h2
      clear h2 hE'
      go_wp2
      go_ret2
      exact ⟨none, 0, 0, [], rfl, RN.nil_ _ _ _ _ _, fun h9 => absurd h9 h2'.out, fun _ => rfl, hB4⟩
    subst h2
    obtain ⟨y0, y1, y2, y3⟩ := hPa.out _ hP4
    obtain ⟨z0, z1, z2⟩ := hFa.out _ hF4
    by_cases hfull : hi - lo + 1 < sz
    rotate_left
    · exact absurd (by rw [hE'.out, if_neg (by simp), if_neg (by simp), if_neg (by simp), if_neg hfull]) hne.out
    obtain rfl : E = 12 := by rw [hE'.out, if_neg (by simp), if_neg (by simp), if_neg (by simp), if_pos hfull]
    have w1' : IntKind.i64.wrap (hi - lo) = hi - lo := IntWalk.i64_in _ (by omega)
    have w2' : IntKind.i64.wrap (hi - lo + 1) = hi - lo + 1 := IntWalk.i64_in _ (by omega)
    clear hE' hne
    go_wp2
    go_ret2
    exact ⟨none, 0, 0, [], rfl, RN.nil_ _ _ _ _ _, fun h9 => absurd h9 (by decide), fun _ => rfl, hB4⟩
theorem fsFault_c (p : Pl) (hp : PlBd p) (f : Fl) (w : World) :
    Calls Tryz.prog 84 #[p.val, f.val] w fun e w' => e = .returned (.int .i64 (if p.hi - p.lo + 1 < f.sz then 12 else 0)) ∧ Below w.heap.size w w' := by
  have hB1 : Below w.heap.size w ((w.alloc (.cells p.cells 131)).alloc (.cells f.cells 128)) := below_next (below_new w _) (below_new _ _)
  have hP1 : PoolB w.heap.size p ((w.alloc (.cells p.cells 131)).alloc (.cells f.cells 128)) := PoolB.keep _ _ (heap_alloc_new w _) (below_new _ _)
  have hF1 : FinB (w.heap.size + 1) f ((w.alloc (.cells p.cells 131)).alloc (.cells f.cells 128)) := by
    have := heap_alloc_new (w.alloc (.cells p.cells 131)) (.cells f.cells 128)
    rw [alloc_size] at this
    exact this
  obtain ⟨y0, y1, y2, y3⟩ := hP1.at_
  obtain ⟨z0, z1, z2⟩ := hF1.at_
  obtain ⟨⟨p0, p1⟩, p2, p3⟩ := hp
  obtain ⟨lo, hi, le, ci⟩ := p
  obtain ⟨sz, mn, rs⟩ := f
  dsimp only [Pl.val, Pl.cells, Fl.val, Fl.cells] at *
  have w1' : IntKind.i64.wrap (hi - lo) = hi - lo := IntWalk.i64_in _ (by omega)
  have w2' : IntKind.i64.wrap (hi - lo + 1) = hi - lo + 1 := IntWalk.i64_in _ (by omega)
  by_cases h : hi - lo + 1 < sz
  · rw [if_pos h]
    go_enter Tryz.func84, Tryz.ntmps84
    go_wp2
    go_ret
    exact ⟨rfl, hB1⟩
  · rw [if_neg h]
    go_enter Tryz.func84, Tryz.ntmps84
    go_wp2
    go_ret
    exact ⟨rfl, hB1⟩
/-- places: the final's error, else their own -/
def pfErr (f : Fl) (P : List Pc) : Int := if finErr f = 0 then placesErr f P else finErr f
theorem rplErr_or (f : Fl) (P : List Pc) (who : List ByteArray) : rplErr f P who = orV [pfErr f P, goneErr (P.map Pc.who) who] := by
  unfold rplErr pfErr
  by_cases h0 : finErr f = 0
  · rw [if_neg (by simp [h0]), if_pos h0]
    simp only [orV]
    split <;> simp_all
  · rw [if_pos h0, if_neg h0]
    simp only [orV]
    rw [if_pos h0]
theorem fsErr_or (p : Pl) (f : Fl) (P : List Pc) : fsErr p f P = orV [poolErr p, pfErr f P, if p.hi - p.lo + 1 < f.sz then 12 else 0] := by
  unfold fsErr pfErr
  simp only [orV]
  by_cases h1 : poolErr p ≠ 0
  · rw [if_pos h1, if_pos h1]
  · rw [if_neg h1, if_neg h1]
    by_cases h0 : finErr f = 0
    · rw [if_neg (by simp [h0]), if_pos h0]
      split
      · rfl
      · split <;> simp
    · rw [if_pos h0, if_neg h0, if_pos h0]
end Go.Proofs.YtklggnglaeagpaaGreatDoor

/- tumbref1.FinalStartsOf: the list of heat.FinalStarts, sorted. -/
namespace Go.Proofs.YtklggnglaeagpaaGreatDoor
open Go.RowKit Go.Shelf Go.Lib Go.Sort
set_option linter.unusedVariables false

theorem stIn_snoc (LV : List Int) (h : Int) : ∀ (l : List ByteArray) (j : Nat) (s : ByteArray), stIn LV h j (l ++ [s]) = stIn LV h j l ++ [⟨s, h, LV.getD (j + l.length) 0⟩]
  | [], j, s => rfl
  | a :: r, j, s => by
    show ⟨a, h, LV.getD j 0⟩ :: stIn LV h (j + 1) (r ++ [s]) = ⟨a, h, LV.getD j 0⟩ :: (stIn LV h (j + 1) r ++ _)
    rw [stIn_snoc LV h r (j + 1) s, List.length_cons, show j + 1 + r.length = j + (r.length + 1) by omega]
theorem stOut_snoc (LV : List Int) : ∀ (H : List (List ByteArray)) (i : Nat) (l : List ByteArray), stOut LV i (H ++ [l]) = stOut LV i H ++ stIn LV (((i + H.length : Nat) : Int) + 1) 0 l
  | [], i, l => by show stIn LV _ 0 l ++ [] = _; rw [List.append_nil]; rfl
  | a :: r, i, l => by
    show stIn LV _ 0 a ++ stOut LV (i + 1) (r ++ [l]) = (stIn LV _ 0 a ++ stOut LV (i + 1) r) ++ _
    rw [stOut_snoc LV r (i + 1) l, List.append_assoc, List.length_cons, show i + 1 + r.length = i + (r.length + 1) by omega]
theorem stIn_len9 (LV : List Int) (h : Int) : ∀ (l : List ByteArray) (j : Nat), (stIn LV h j l).length = l.length
  | [], _ => rfl
  | a :: r, j => by show (stIn LV h (j + 1) r).length + 1 = _; rw [stIn_len9 LV h r (j + 1)]; rfl
theorem nmF_take_le (P : List Pc) (v : Int) (j : Nat) : (nmF (P.take j) v).length ≤ (nmF P v).length := by
  unfold nmF
  rw [List.length_map, List.length_map]
  exact ((List.take_sublist j P).filter _).length_le
theorem SO.belowG {w wx w' : World} {u : Value} {acc : List Sp} (h : SO w u acc wx) (B : Below wx.heap.size wx w') : SO w u acc w' := ⟨own_below h.own B, below_next h.bel B⟩
def RetFo (w : World) (p : Pl) (f : Fl) (P : List Pc) (e : Ending) (w' : World) : Prop := ∃ A' n' c' D, e = .returned (.slice A' n' c') ∧ RSp w' A' n' D ∧ SpSortF (stOut (laneV p.lo p.hi) 0 (heatsV P f.mn.toNat)) D ∧ Below w.heap.size w w'
set_option maxHeartbeats 6400000 in
set_option maxRecDepth 100000 in
theorem finalStartsOf_c (p : Pl) (hp : PlOk p) (f : Fl) (hf : FlOk f) (A : Option Addr) (n c : Nat) (P : List Pc) (hok : PlsOk f P) (hfit : f.sz ≤ p.hi - p.lo + 1) (w : World) (h : RPc w A n P) :
    Calls Tryz.prog 86 #[p.val, f.val, .slice A n c] w (RetFo w p f P) := by
  have hLa := Lib.hid (fun W => lanesRef_c p hp W)
  have hLl := laneV_len hp.1.2
  have hBy := Lib.hid (fun l w base n u ho hn => sortFSp_c 203 (enters_of Tryz.func203 (by kernel_rfl) rfl) (fun x y W => byStart_c x y W) l w base n u ho hn)
  have hnl := Lib.hid (fun v (hv : 1 ≤ v) => nmF_len hf hok hv)
  have hn : n ≤ 300 := by have := hok.big; rw [h.len] at this; exact this
  have hPl := Lib.hid h.len
  have hNs := Lib.hid (fun v k (y : Pc) (hy : P[k]? = some y) => show nmF (P.take (k + 1)) v = nmF (P.take k) v ++ if y.fin = v then [y.who] else [] by rw [List.take_add_one, hy]; exact nmF_snoc _ _ _)
  have hNt := Lib.hid (fun v => show nmF (P.take n) v = nmF P v by rw [List.take_of_length_le (by rw [h.len]; exact Nat.le_refl _)])
  have hN0 := Lib.hid (fun v => show nmF (P.take 0) v = [] from rfl)
  have hNl := Lib.hid (fun v k => nmF_take_le P v k)
  have hH0 := Lib.hid (show heatsV P 0 = [] from rfl)
  have hH1 := Lib.hid (fun (k : Nat) => show heatsV P (k + 1) = (if nmF P ((k : Int) + 1) = [] then [] else [nmF P ((k : Int) + 1)]) ++ heatsV P k from rfl)
  have hSi := Lib.hid (fun h l s => stIn_snoc (laneV p.lo p.hi) h l 0 s)
  have hSo := Lib.hid (fun H l => stOut_snoc (laneV p.lo p.hi) H 0 l)
  have hSl := Lib.hid (fun h l => stIn_len9 (laneV p.lo p.hi) h l 0)
  have hSz := Lib.hid (fun h => show stIn (laneV p.lo p.hi) h 0 [] = [] from rfl)
  have hO0 := Lib.hid (show stOut (laneV p.lo p.hi) 0 [] = [] from rfl)
  have hP1 : PoolB w.heap.size p ((w.alloc (.cells p.cells 131)).alloc (.cells f.cells 128)) := PoolB.keep _ _ (heap_alloc_new w _) (below_new _ _)
  have hF1 : FinB (w.heap.size + 1) f ((w.alloc (.cells p.cells 131)).alloc (.cells f.cells 128)) := by
    have := heap_alloc_new (w.alloc (.cells p.cells 131)) (.cells f.cells 128)
    rw [alloc_size] at this
    exact this
  have hB1 : Below w.heap.size w ((w.alloc (.cells p.cells 131)).alloc (.cells f.cells 128)) := below_next (below_new w _) (below_new _ _)
  have hR := Lib.hid (fun W B => h.below (w' := W) B)
  have hFk := Lib.hid (fun a v (h : FinB (w.heap.size + 1) f a) B => FinB.keep a v h B)
  have hFa := Lib.hid (fun v (h : FinB (w.heap.size + 1) f v) => h.at_)
  obtain ⟨y0, y1, y2, y3⟩ := hP1.at_
  obtain ⟨z0, z1, z2⟩ := hFa.out _ hF1
  obtain ⟨⟨p0, p1⟩, p2, _⟩ := hp
  obtain ⟨⟨f0, f1⟩, ⟨f2, f3⟩, _⟩ := hf
  clear h hok
  unfold RetFo
  generalize laneV p.lo p.hi = LV at *
  obtain ⟨lo, hi, le, ci⟩ := p
  obtain ⟨sz, mn, rs⟩ := f
  dsimp only [Pl.val, Pl.cells, Fl.val, Fl.cells] at *
  obtain ⟨m, rfl⟩ : ∃ m : Nat, mn = (m : Int) := ⟨mn.toNat, by omega⟩
  rw [Int.toNat_natCast]
  have hLV : (LV.length : Int) ≤ 10 := by omega
  generalize stIn LV = SI at *
  generalize stOut LV 0 = SU at *
  generalize heatsV P = HV at *
  go_enter Tryz.func86, Tryz.ntmps86
  go_wp2_with fail
  refine (hLa.out _).mono ?_; rintro e w5 ⟨AL, nL, cL, rfl, hoL, hlL, B5⟩
  have hRL : RI 3 w5 AL nL LV := R1.of_own hoL (by omega)
  have hB5 := below_next hB1 B5
  have hF5 := hFk.out _ _ hF1 B5
  have hRb := Lib.hid (fun W B => hRL.below (w' := W) B)
  have hR5 := Lib.hid (fun W (B : Below w5.heap.size w5 W) => hR.out W (below_next hB5 B))
  have hF5k := Lib.hid (fun W (B : Below w5.heap.size w5 W) => hFa.out _ (hFk.out _ _ hF5 B))
  clear hLa hP1 hF1 hB1 hR hoL hRL B5 y0 y1 y2 y3 z0 z1 z2
  obtain ⟨z0, z1, z2⟩ := hFa.out _ hF5
  go_wp2_with fail
  go_loopw [8, 9, 10] (fun u hv kv wr => ∃ (k : Nat) (H : List (List ByteArray)) (acc : List Sp), k ≤ m ∧ kv = .int .i64 k ∧ hv = .int .i64 H.length ∧ H.length + k ≤ m ∧ Hid (acc.length ≤ 10 * H.length) ∧ SO w5 u acc wr ∧ Hid (acc = SU H) ∧ Hid (H ++ HV k = HV m)) (fun _ _ kv _ => (intOf kv).toNat)
  case atStart => exact ⟨m, [], [], Nat.le_refl _, rfl, rfl, by simp, Lib.hid (by simp), SO.start w5, Lib.hid hO0.out.symm, Lib.hid rfl⟩
  case round =>
    rename World => wr
    obtain ⟨k, H, acc0, hk, rfl, rfl, hHk, hal0, K, hac, hG⟩ := hrel
    rcases Nat.eq_zero_or_pos k with h0 | h0
    · subst h0
      have hHm : H = HV m := by have h := hG.out; rw [hH0.out, List.append_nil] at h; exact h
      obtain ⟨Ao, co, rfl⟩ := own_shape K.own
      have hal9 := hal0.out
      have hH5 : H.length ≤ 5 := by omega
      have hSS := Lib.hid (hBy.out acc0 _ _ _ _ K.own (by omega))
      have hbe := Lib.hid (fun w' (hg : wr.grownBy w' (Value.slice Ao acc0.length co).ownBlock) => below_next hB5 (below_own K.bel K.own hg K.bel.size (Nat.le_refl _)))
      have hacm : acc0 = SU (HV m) := by rw [hac.out, hHm]
      have hacm' := Lib.hid hacm
      clear K hG hHk hal0 hac hHm hacm
      go_wp2_with fail
      refine hSS.out.mono ?_; rintro e w7 ⟨rfl, D, hoD, hsD, hgD⟩
      have hBf := hbe.out _ hgD
      have hRD : RSp w7 Ao _ D := RN.of_own spE_len hoD (own_len spE_len (by decide) hoD) (by omega)
      clear hoD hgD hSS hbe
      go_wp2
      go_ret
      exact ⟨Ao, _, co, D, rfl, hRD, by rw [← hacm'.out]; exact hsD, hBf⟩
    · obtain ⟨k', rfl⟩ : ∃ k', k = k' + 1 := ⟨k - 1, by omega⟩
      have hkc : ((k' + 1 : Nat) : Int) = (k' : Int) + 1 := by push_cast; rfl
      rw [hkc]
      have hkp : (0 : Int) < (k' : Int) + 1 := by omega
      have hnk := Lib.hid (hnl.out ((k' : Int) + 1) (by omega))
      go_wp2_with fail
      go_loopw [8, 9, 11, 24] (fun u hv nv i wx => ∃ (j : Nat) (N : List ByteArray) (acc : List Sp) (hh : Int), j ≤ n ∧ i = .int .i64 j ∧ hv = .int .i64 hh ∧ nv = .int .i64 N.length ∧ (H.length ≤ hh ∧ hh ≤ H.length + 1) ∧ Hid ((N = [] → hh = H.length) ∧ (N ≠ [] → hh = H.length + 1)) ∧ Hid (N = nmF (P.take j) ((k' : Int) + 1)) ∧ Hid (acc.length ≤ 10 * H.length + N.length) ∧ SO w5 u acc wx ∧ Hid (acc = SU H ++ SI (((0 + H.length : Nat) : Int) + 1) 0 N)) (fun _ _ _ i _ => n - (intOf i).toNat)
      case atStart => exact ⟨0, [], acc0, H.length, Nat.zero_le _, rfl, rfl, rfl, by omega, Lib.hid ⟨fun _ => rfl, fun h => absurd rfl h⟩, Lib.hid (hN0.out _).symm, Lib.hid (by have := hal0.out; simp; omega), K, Lib.hid (by rw [hSz.out, List.append_nil]; exact hac.out)⟩
      case round =>
        clear K
        rename World => wx
        obtain ⟨j, N, acc, hh, hj, rfl, rfl, rfl, hhb, hhN, hN, hal, K, hA⟩ := hrel
        by_cases hlt : j < n
        · obtain ⟨b, off, x, rfl, hbl, hx, c0, c1, c2⟩ := RPc_at3 (hR5.out _ K.bel) hlt
          have hNx := hNs.out ((k' : Int) + 1) j x hx
          have hNle := hNl.out ((k' : Int) + 1) (j + 1)
          have hnkb := hnk.out
          obtain ⟨who, fin, rk⟩ := x
          dsimp only at *
          have hn5 := heap_alloc_new wx (.cells #[.string who, .int .i64 fin, .int .i64 rk] 144)
          have K5 := K.belowG (below_new wx (.cells #[.string who, .int .i64 fin, .int .i64 rk] 144))
          have x1 := (blk_facts hn5).1 1
          clear hx
          by_cases hfk : fin = (k' : Int) + 1
          rotate_left
          · have hN2 := Lib.hid (show N = nmF (P.take (j + 1)) ((k' : Int) + 1) by rw [hNx, if_neg hfk, List.append_nil]; exact hN.out)
            have hne : ¬ fin = (k' : Int) + 1 := hfk
            have hnb : (fin != (k' : Int) + 1) = true := by simpa using hfk
            clear hNx hNle hN K hfk
            go_wp2
            go_roundw
            case rel => exact ⟨j + 1, N, acc, hh, by omega, by go_num, rfl, rfl, hhb, hhN, hN2, hal, K5, hA⟩
            case measure => simp [intOf]; omega
          subst hfk
          rw [if_pos rfl, ← hN.out] at hNx
          rw [hNx, List.length_append] at hNle
          have hNl1 : N.length < LV.length := by simp at hNle; omega
          have hN2 := Lib.hid (show N ++ [who] = nmF (P.take (j + 1)) ((k' : Int) + 1) from hNx.symm)
          obtain ⟨bl', ol', lv', hALe, hblw, hlv', _⟩ := (hRb.out _ (Below.refl _ _)).at_ (k := N.length) (by omega)
          obtain ⟨bl, ol, lv, rfl, hblL, hlv, cl⟩ := (hRb.out _ K5.bel).at_ (k := N.length) (by omega)
          injection hALe with hALe
          injection hALe with ea1 ea2
          subst ea1 ea2
          clear hlv'
          have hget : LV.getD N.length 0 = lv := getD_of hlv
          have hA2 := Lib.hid (show acc ++ [⟨who, (H.length : Int) + 1, lv⟩] = SU H ++ SI (((0 + H.length : Nat) : Int) + 1) 0 (N ++ [who]) by rw [hSi.out, ← List.append_assoc, ← hA.out, Nat.zero_add, Nat.zero_add, hget])
          have hal2 := Lib.hid (show (acc ++ [(⟨who, (H.length : Int) + 1, lv⟩ : Sp)]).length ≤ 10 * H.length + (N ++ [who]).length by have := hal.out; simp; omega)
          have hhN2 := Lib.hid (show (N ++ [who] = [] → (H.length : Int) + 1 = H.length) ∧ (N ++ [who] ≠ [] → (H.length : Int) + 1 = H.length + 1) from ⟨fun h => by simp at h, fun _ => rfl⟩)
          have hnl2 := Lib.hid (show ((N ++ [who]).length : Int) = (N.length : Int) + 1 by rw [List.length_append]; push_cast; rfl)
          have hNb : (N.length : Int) ≤ 300 := by omega
          have hHb : (H.length : Int) ≤ 10 := by omega
          have hNlt : (N.length : Int) < (nL : Int) := by omega
          have hN0' : (0 : Int) ≤ (N.length : Int) := by omega
          have hacb : acc.length ≤ 1000 := by have := hal.out; omega
          have hAp := Lib.hid (fun v' w' ho hg => K5.app (v' := v') (x := ⟨who, (H.length : Int) + 1, lv⟩) (w' := w') ho hg)
          have lb5 := lt_of_heap hn5
          have hzx := K.bel.size
          have hbz : wx.heap.size + 1 = (wx.alloc (.cells #[.string who, .int .i64 ((k' : Int) + 1), .int .i64 rk] 144)).heap.size := by simp
          obtain ⟨Ao, co, rfl⟩ := own_shape K5.own
          have hown := K5.own
          have hneB := Lib.hid (fun i (hi : (Value.slice Ao acc.length co).ownBlock = some i) => And.intro (hown.lt i hi) (fun (e : i = wx.heap.size) => show False from by have h9 := (K.own.lt i hi).2; omega))
          clear hNx hNle hN K hlv hget hA hal
          have e1 : IntKind.i64.wrap ((H.length : Int) + 1) = (H.length : Int) + 1 := IntWalk.i64_in _ (by omega)
          have e2 : IntKind.i64.wrap ((N.length : Int) + 1) = (N.length : Int) + 1 := IntWalk.i64_in _ (by omega)
          have x0 := (blk_facts hn5).1 0
          have hneL := Lib.hid (fun i (hi : (Value.slice Ao acc.length co).ownBlock = some i) => fun (e : i = bl) => show False from by have h9 := (hown.lt i hi).1; have h8 := hblw; omega)
          rcases Nat.eq_zero_or_pos N.length with hn0 | hn0
          · have hNn : N = [] := List.eq_nil_of_length_eq_zero hn0
            obtain rfl : hh = H.length := hhN.out.1 hNn
            have eb : ((N.length : Int) == 0) = true := by rw [hn0]; rfl
            clear hn0 hNn
            go_wp2_with fail
            generalize wx.alloc (.cells #[.string who, .int .i64 ((k' : Int) + 1), .int .i64 rk] 144) = wy at *
            obtain ⟨i0, hi0, hx0, hx1, hx2⟩ := info_parts info_start
            go_region_held3 (fun w' => w'.cell? ⟨wx.heap.size, 0, none⟩ = some (.string who) ∧ w'.cell? ⟨bl, ol + N.length, none⟩ = some (.int .i64 lv))
              (first | go_keep | with_reducible exact ⟨q0, q1⟩)
              (first
                | (refine step_append_lies _ (by rfl) _ _ _ (by rfl) w5.heap.size 153 i0 _ 3 32 Tryz.underlying146 hi0 hx0 hx1 hx2 rfl (by omega) _ acc.length (acc.flatMap spE) (by rfl) (hown.drew.alloc _) ⟨wy.heap.size, 0, none⟩ 1 1 [.string who, .int .i64 ((H.length : Int) + 1), .int .i64 lv] (by rfl) (by rfl) (World.news_of_block (cs := #[.string who, .int .i64 ((H.length : Int) + 1), .int .i64 lv]) (t := 153) (fr := (0, 0)) (heap_alloc_new wy.drew _)) (by simp [Value.oneCell']) (by omega) (by unfold maxLen; omega) (by omega) (by simp; omega) (wy.heap.size + 1) (by simp) ?_; intro gg cap w9 hown9 hgrow hat hlt9; have q0 := (hgrow.cell_far ⟨wx.heap.size, 0, none⟩ (by simp; omega) (fun e => (hneB.out _ e.symm).2 rfl)).trans ((World.cell?_alloc_lt wy.drew _ ⟨wx.heap.size, 0, none⟩ (by show wx.heap.size < wy.heap.size; omega)).trans x0); have q1 := (hgrow.cell_far ⟨bl, ol + N.length, none⟩ (by simp; omega) (fun e => hneL.out _ e.symm rfl)).trans ((World.cell?_alloc_lt wy.drew _ ⟨bl, ol + N.length, none⟩ (by show bl < wy.heap.size; omega)).trans cl)))
            have hg9 : wy.grownBy w9 (Value.slice Ao acc.length co).ownBlock := ⟨hgrow.os, hgrow.tape, hgrow.output, by have := hgrow.size; simp at this; omega, fun q hq hne => (hgrow.block q (by simp; omega) hne).trans (Below.heap_alloc wy.drew _ q hq)⟩
            have K9 := Lib.hid (hAp.out _ w9 hown9 hg9)
            clear hown9 hgrow hat hlt9 q0 q1 hg9 hi0 hx0 hx1 hx2 hown hneB hneL hAp x0 x1 cl K5 eb hn5 lb5
            go_wp2
            go_roundw
            case rel => exact ⟨j + 1, N ++ [who], _, (H.length : Int) + 1, by omega, by go_num, rfl, by rw [hnl2.out], by omega, Lib.hid ⟨fun h => by simp at h, fun _ => rfl⟩, hN2, hal2, K9.out, hA2⟩
            case measure => simp [intOf]; omega
          · have hNn : N ≠ [] := fun e => by rw [e] at hn0; simp at hn0
            obtain rfl : hh = H.length + 1 := hhN.out.2 hNn
            have eb : ((N.length : Int) == 0) = false := beq_eq_false_iff_ne.2 (by omega)
            clear hn0 hNn
            go_wp2_with fail
            generalize wx.alloc (.cells #[.string who, .int .i64 ((k' : Int) + 1), .int .i64 rk] 144) = wy at *
            obtain ⟨i0, hi0, hx0, hx1, hx2⟩ := info_parts info_start
            go_region_held3 (fun w' => w'.cell? ⟨wx.heap.size, 0, none⟩ = some (.string who) ∧ w'.cell? ⟨bl, ol + N.length, none⟩ = some (.int .i64 lv))
              (first | go_keep | with_reducible exact ⟨q0, q1⟩)
              (first
                | (refine step_append_lies _ (by rfl) _ _ _ (by rfl) w5.heap.size 153 i0 _ 3 32 Tryz.underlying146 hi0 hx0 hx1 hx2 rfl (by omega) _ acc.length (acc.flatMap spE) (by rfl) (hown.drew.alloc _) ⟨wy.heap.size, 0, none⟩ 1 1 [.string who, .int .i64 ((H.length : Int) + 1), .int .i64 lv] (by rfl) (by rfl) (World.news_of_block (cs := #[.string who, .int .i64 ((H.length : Int) + 1), .int .i64 lv]) (t := 153) (fr := (0, 0)) (heap_alloc_new wy.drew _)) (by simp [Value.oneCell']) (by omega) (by unfold maxLen; omega) (by omega) (by simp; omega) (wy.heap.size + 1) (by simp) ?_; intro gg cap w9 hown9 hgrow hat hlt9; have q0 := (hgrow.cell_far ⟨wx.heap.size, 0, none⟩ (by simp; omega) (fun e => (hneB.out _ e.symm).2 rfl)).trans ((World.cell?_alloc_lt wy.drew _ ⟨wx.heap.size, 0, none⟩ (by show wx.heap.size < wy.heap.size; omega)).trans x0); have q1 := (hgrow.cell_far ⟨bl, ol + N.length, none⟩ (by simp; omega) (fun e => hneL.out _ e.symm rfl)).trans ((World.cell?_alloc_lt wy.drew _ ⟨bl, ol + N.length, none⟩ (by show bl < wy.heap.size; omega)).trans cl)))
            have hg9 : wy.grownBy w9 (Value.slice Ao acc.length co).ownBlock := ⟨hgrow.os, hgrow.tape, hgrow.output, by have := hgrow.size; simp at this; omega, fun q hq hne => (hgrow.block q (by simp; omega) hne).trans (Below.heap_alloc wy.drew _ q hq)⟩
            have K9 := Lib.hid (hAp.out _ w9 hown9 hg9)
            clear hown9 hgrow hat hlt9 q0 q1 hg9 hi0 hx0 hx1 hx2 hown hneB hneL hAp x0 x1 cl K5 eb hn5 lb5
            go_wp2
            go_roundw
            case rel => exact ⟨j + 1, N ++ [who], _, (H.length : Int) + 1, by omega, by go_num, rfl, by rw [hnl2.out], by omega, Lib.hid ⟨fun h => by simp at h, fun _ => rfl⟩, hN2, hal2, K9.out, hA2⟩
            case measure => simp [intOf]; omega
        · obtain rfl : j = n := by omega
          have hNf : N = nmF P ((k' : Int) + 1) := by rw [hN.out]; exact hNt.out _
          have e3 : IntKind.i64.wrap ((k' : Int) + 1 - 1) = (k' : Int) := by rw [IntWalk.i64_in _ (by omega)]; omega
          have hH1k := hH1.out k'
          rw [← hNf] at hH1k
          by_cases hNe : N = []
          · obtain rfl : hh = H.length := hhN.out.1 hNe
            have hA3 := Lib.hid (show acc = SU H by have h9 := hA.out; rw [hNe, hSz.out, List.append_nil] at h9; exact h9)
            have hG3 := Lib.hid (show H ++ HV k' = HV m by have h9 := hG.out; rw [hH1k, if_pos hNe, List.nil_append] at h9; exact h9)
            have hl3 := Lib.hid (show acc.length ≤ 10 * H.length by have h9 := hal.out; rw [hNe] at h9; simpa using h9)
            clear hA hG hal hN hNf hH1k hNe hhN hnk
            go_wp2
            go_roundw
            case rel => exact ⟨k', H, acc, by omega, by go_num, rfl, by omega, hl3, K, hA3, hG3⟩
            case measure => simp [intOf]; try omega
          · obtain rfl : hh = H.length + 1 := hhN.out.2 hNe
            have hA3 := Lib.hid (show acc = SU (H ++ [N]) by rw [hSo.out]; exact hA.out)
            have hG3 := Lib.hid (show (H ++ [N]) ++ HV k' = HV m by have h9 := hG.out; rw [hH1k, if_neg hNe] at h9; rw [List.append_assoc]; exact h9)
            have hNk : N.length ≤ 10 := by have h9 := hnk.out; rw [← hNf] at h9; omega
            have hl3 := Lib.hid (show acc.length ≤ 10 * (H ++ [N]).length by have h9 := hal.out; simp; omega)
            have hlc : (((H ++ [N]).length : Nat) : Int) = (H.length : Int) + 1 := by rw [List.length_append]; push_cast; rfl
            have hlc' := Lib.hid hlc
            have hlk := Lib.hid (show (H ++ [N]).length + k' ≤ m by rw [List.length_append, List.length_singleton]; omega)
            clear hA hG hal hN hNf hH1k hNe hhN hnk hlc
            go_wp2
            go_roundw
            case rel => exact ⟨k', H ++ [N], acc, by omega, by go_num, by rw [hlc'.out], hlk.out, hl3, K, hA3, hG3⟩
            case measure => simp [intOf]; try omega
end Go.Proofs.YtklggnglaeagpaaGreatDoor

/- The stream's places. Printed by wip/mkpll.py. -/
namespace Go.Proofs.YtklggnglaeagpaaGreatDoor
open Go.RowKit Go.Shelf Go.Lib Go.Sort
set_option linter.unusedVariables false

set_option maxHeartbeats 3200000 in
set_option maxRecDepth 100000 in
theorem finalsOfO_c (f : Fl) (hf : FlOk f) (A : Option Addr) (n c : Nat) (l : List Sd) (w : World) (h : RSd w A n l) (hn : n ≤ 19) (h0 : seedErr l = 0) :
    Calls Tryz.prog 189 #[f.val, .slice A n c] w fun e w' => ∃ A' n' c', e = .returned (.slice A' n' c') ∧ w'.ownsRow (w.heap.size + 1) 144 3 (.slice A' n' c') n' ((plcV f l).flatMap pcE) ∧ n' ≤ n ∧ Below w.heap.size w w' := by
  obtain ⟨_, hso⟩ := seedErr_ok h0
  have hFi := Lib.hid (fun W h => finishedRef_c A n c l W h hn (fun x hx => (hso x hx).2))
  have hP := Lib.hid (fun A2 n2 c2 W h h2 => placed_c f hf A2 n2 c2 (finL l) W h h2)
  have hPl := Lib.hid (show plcV f l = plc f (finL l) 0 (finL l) from rfl)
  have hF0 : FinB w.heap.size f (w.alloc (.cells f.cells 128)) := heap_alloc_new w _
  have hB0 := below_new w (.cells f.cells 128)
  have hFk := Lib.hid (fun a v (h : FinB w.heap.size f a) B => FinB.keep a v h B)
  have hFa := Lib.hid (fun v (h : FinB w.heap.size f v) => h.at_)
  have hR := Lib.hid (fun W B => h.below (w' := W) B)
  clear h0 h
  generalize plcV f l = PV at *
  obtain ⟨sz, mn, rs⟩ := f
  dsimp only [Fl.val, Fl.cells] at *
  generalize FinB w.heap.size ⟨sz, mn, rs⟩ = FB at *
  obtain ⟨y0, y1, y2⟩ := hFa.out _ hF0
  have hr1 := hR.out _ hB0
  go_enter Tryz.func189, Tryz.ntmps189
  go_wp2_with fail
  have hFd := Lib.hid (show FB (w.alloc (.cells #[.int .i64 sz, .int .i64 mn, .int .i64 rs] 128)).drew from hFk.out _ _ hF0 (below_drewN (Below.refl _ _) 1))
  have hB1' := Lib.hid (fun v (B : Below (w.alloc (.cells #[.int .i64 sz, .int .i64 mn, .int .i64 rs] 128)).heap.size (w.alloc (.cells #[.int .i64 sz, .int .i64 mn, .int .i64 rs] 128)).drew v) => below_next (below_drewN hB0 1) B)
  go_region_held3 (fun w' => w'.cell? ⟨w.heap.size, 0, none⟩ = some (.int .i64 sz) ∧ w'.cell? ⟨w.heap.size, 1, none⟩ = some (.int .i64 mn) ∧ w'.cell? ⟨w.heap.size, 2, none⟩ = some (.int .i64 rs))
    (first | go_keep | with_reducible exact ⟨y30, y31, y32⟩ | with_reducible exact ⟨y20, y21, y22⟩)
    (first
      | (go_at_call 270; refine (hFi.out _ (RSd_drewF hr1)).mono ?_; rintro e w2 ⟨A2, n2, c2, rfl, ho2, hn2, B2⟩; have hB2 := hB1'.out _ B2; have hF2 := hFk.out _ _ hFd.out B2; obtain ⟨y20, y21, y22⟩ := hFa.out _ hF2; have hr2 := RN.of_own sdE_len ho2 (own_len sdE_len (by decide) ho2) (by omega))
      | (go_at_call 269; refine (hP.out _ _ _ _ hr2 (by omega)).mono ?_; rintro e w3 ⟨A3, n3, c3, rfl, ho3, hn3, B3⟩; have hB3 := below_next hB2 B3; have hF3 := hFk.out _ _ hF2 B3; obtain ⟨y30, y31, y32⟩ := hFa.out _ hF3; rw [← hPl.out] at ho3; have hz3 := hB2.size; have ho3' := Lib.hid ho3; have hr3 := RN.of_own pcE_len ho3 (own_len pcE_len (by decide) ho3) (by omega)))
  clear ho2 ho3 hF2 hF3 hB2 hB1' hr1 hr2 hFd
  go_wp2
  go_ret
  exact ⟨A3, n3, c3, rfl, own_mono ho3'.out (by omega), by omega, hB3⟩
theorem pcK : EncK pcE [0, 1, 1] := by
  refine ⟨fun _ => rfl, fun x c hc => ?_, fun x c v hc hv => ?_⟩
  · match c, hc with
    | 0, _ => exact ⟨_, rfl, _, rfl⟩
    | 1, _ => exact ⟨_, rfl, _, rfl⟩
    | 2, _ => exact ⟨_, rfl, _, rfl⟩
  · match c, hc, hv with
    | 0, _, ⟨y, h⟩ => subst h; exact ⟨⟨y, x.fin, x.rk⟩, rfl⟩
    | 1, _, ⟨y, h⟩ => subst h; exact ⟨⟨x.who, y, x.rk⟩, rfl⟩
    | 2, _, ⟨y, h⟩ => subst h; exact ⟨⟨x.who, x.fin, y⟩, rfl⟩
/-- what PlaceList hands back -/
def RetPl (w : World) (g : Nat) (zs : Zs) (k : Nat) (e : Ending) (w' : World) : Prop := ∃ (A : Option Addr) (n c : Nat) (l : List Pc) (k' : Nat), e = .returned (.slice A n c) ∧ w'.ownsRow w.heap.size 144 3 (.slice A n c) n (l.flatMap pcE) ∧ l.length = n ∧ n ≤ 14 ∧ St w' g zs k' ∧ k' ≤ k + 400 ∧ w.grownBy w' (some g)
theorem finB_keepS {b g : Nat} {f : Fl} {w w' : World} (h : FinB b f w) (hg : w.grownBy w' (some g)) (hne : b ≠ g) : FinB b f w' := blk_grown h hg (fun e => hne (by injection e))
set_option maxHeartbeats 6400000 in
set_option maxRecDepth 100000 in
theorem placeList_c (f : Fl) (g : Nat) (zs : Zs) (k : Nat) (w w0 : World) (h : St w g zs k) (hk : k + 12000 ≤ 1099511627776) (hT : Tb w0) (hb0 : Below w0.heap.size w0 w) (hg0 : w0.heap.size ≤ g) :
    Calls Tryz.prog 73 #[.pointer (some ⟨g, 0, none⟩), f.val] w (RetPl w g zs k) := by
  have hglt := h.lt
  have hFF := Lib.hid (fun W => finalFault_c f W)
  have hFE := Lib.hid (fun h => show FlOk f from finErr_ok h)
  have hSd := Lib.hid (fun wx (hs : St wx g zs k) (hg : w.grownBy wx (some g)) => rightSeeds_c g zs k 14 wx w0 hs (by omega) (by omega) hT (hb0.trans (grown_below hg hg0 hb0.size)) hg0)
  have hFi := Lib.hid (fun (h0 : FlOk f) A n c l W h hn h1 => finalsOfO_c f h0 A n c l W h hn h1)
  have hF0 : FinB w.heap.size f (w.alloc (.cells f.cells 128)) := heap_alloc_new w _
  have hB0 := below_new w (.cells f.cells 128)
  have s0 := h.alloc (.cells f.cells 128)
  have hg0' := grown_of_below (row := some g) hB0
  have hFk := Lib.hid (fun a v (h : FinB w.heap.size f a) B => FinB.keep a v h B)
  have hFs := Lib.hid (fun a v (h : FinB w.heap.size f a) (hg : a.grownBy v (some g)) => finB_keepS h hg (by omega))
  have hFa := Lib.hid (fun v (h : FinB w.heap.size f v) => h.at_)
  have hFb := Lib.hid (fun v (h : FinB w.heap.size f v) => show v.heap[w.heap.size]? = some (.cells f.cells 128 (0, 0)) from h)
  clear hT hb0 hg0 h
  generalize finErr f = FE at *
  obtain ⟨sz, mn, rs⟩ := f
  dsimp only [Fl.val, Fl.cells] at *
  obtain ⟨y0, y1, y2⟩ := hFa.out _ hF0
  go_enter Tryz.func73, Tryz.ntmps73
  go_wp2_with fail
  refine (hFF.out _).mono ?_; rintro e w2 ⟨rfl, B2⟩
  have s2 := s0.below B2
  have hF2 := hFk.out _ _ hF0 B2
  have hgr2 := grown_trans hg0' (grown_of_below B2)
  clear s0 hF0 hB0 hg0' B2 y0 y1 y2 hFF
  by_cases hfe : FE = 0
  rotate_left
  · have hd : (FE != 0) = true := by simpa using hfe
    clear hfe hFE hSd hFi
    go_wp2
    go_ret
    exact ⟨none, 0, 0, [], k, rfl, World.ownsRow_nil _ _ _ _, rfl, by omega, s2, by omega, hgr2⟩
  have hfo := hFE.out hfe
  have hFi2 := Lib.hid (fun A n c l W h hn h1 => hFi.out hfo A n c l W h hn h1)
  obtain ⟨⟨f0, f1⟩, ⟨f2, f3⟩, f4, f5⟩ := hfo
  dsimp only at f0 f1 f2 f3 f4 f5
  subst hfe
  clear hFi hFE
  go_wp2_with fail
  have s2d : St w2.drew g zs k := s2.drew
  have hg2d : w.grownBy w2.drew (some g) := grown_drew hgr2
  have hF2d : FinB w.heap.size ⟨sz, mn, rs⟩ w2.drew := hF2
  obtain ⟨y0, y1, y2⟩ := hFa.out _ hF2
  have hz2 := hgr2.size
  have hSd2 := Lib.hid (hSd.out w2.drew s2d hg2d)
  go_region_held3 (fun w' => w'.cell? ⟨w.heap.size, 0, none⟩ = some (.int .i64 sz) ∧ w'.cell? ⟨w.heap.size, 1, none⟩ = some (.int .i64 mn) ∧ w'.cell? ⟨w.heap.size, 2, none⟩ = some (.int .i64 rs))
    (first | go_keep | with_reducible exact ⟨y40, y41, y42⟩ | with_reducible exact ⟨y30, y31, y32⟩)
    (first
      | (go_at_call 40; refine hSd2.out.mono ?_; rintro e w3 ⟨A3, n3, c3, l3, k3, rfl, hr3, he3, hn3, s3, hk3, g3, _⟩; have hF3 := hFs.out _ _ hF2d g3; obtain ⟨y30, y31, y32⟩ := hFa.out _ hF3; have hg3 := grown_trans hg2d g3)
      | (go_at_call 189; refine (hFi2.out _ n3 _ _ _ hr3 (by omega) he3).mono ?_; rintro e w4 ⟨A4, n4, c4, rfl, ho4, hn4, B4⟩; have hF4 := hFk.out _ _ hF3 B4; obtain ⟨y40, y41, y42⟩ := hFa.out _ hF4; have s4 := s3.below B4; have hg4 := grown_trans hg3 (grown_of_below B4); have hz3 := hg3.size))
  have ho4' := own_mono ho4 (show w.heap.size + 1 ≤ w3.heap.size + 1 by omega)
  have hl4 := own_len pcE_len (by decide) ho4
  have hz4 := hg4.size
  generalize plcV ⟨sz, mn, rs⟩ l3 = PV at *
  clear ho4 B4 hF3 hF2d hF2 s2 s2d hg2d hgr2 hSd hSd2 hFi2 y0 y1 y2 y30 y31 y32 hr3 s3 hg3 g3 he3
  by_cases hn0 : n4 = 0
  · subst hn0
    go_wp2
    go_ret
    exact ⟨A4, 0, c4, PV, k3, rfl, own_mono ho4' (by omega), hl4, by omega, s4, by omega, hg4⟩
  have hj1 : (0 : Int) < (n4 : Int) := by omega
  have hp : 0 < n4 := by omega
  go_wp2_with fail
  refine (flipE_c g zs k3 _ _ s4 (by omega) (by omega) (by omega)).mono ?_; rintro e w5 ⟨fl, rfl, s5, g5⟩
  have ho5 := own_keep ho4' (by omega) g5
  have hg5 := grown_trans hg4 g5
  have hF5 := hFs.out _ _ hF4 g5
  clear ho4' s4 hg4 g5 hF4 y40 y41 y42
  cases fl
  · go_wp2
    go_ret
    exact ⟨A4, n4, c4, PV, _, rfl, own_mono ho5 (by omega), hl4, by omega, s5, by omega, hg5⟩
  · go_wp2_with fail
    refine (nextE_c g zs _ (n4 : Int) _ s5 (by omega) (by omega) (by omega)).mono ?_; rintro e w7 ⟨v, rfl, v0, v1, s7, g7⟩
    obtain ⟨q, rfl⟩ : ∃ q : Nat, v = q := ⟨v.toNat, by omega⟩
    have ho7 := own_keep ho5 (by omega) g7
    have hg7 := grown_trans hg5 g7
    have hF7 := hFs.out _ _ hF5 g7
    obtain ⟨b, rfl, hbb⟩ := own_someN ho7 (by omega)
    have hbge := (ho7.lt b rfl).1
    have ho7' := own_mono ho7 (show w.heap.size ≤ w.heap.size + 1 by omega)
    have pb7 := hFb.out _ hF7
    obtain ⟨y0, y1, y2⟩ := hFa.out _ hF7
    have hq : q < n4 := by omega
    have e8 : (q : Int) < n4 := by omega
    have u1 : IntKind.i64.wrap (mn + 1) = mn + 1 := IntWalk.i64_in _ (by omega)
    clear ho5 s5 hg5 g7 hF5 ho7
    go_wp2_with fail
    refine wp_region_inv (by kernel_rfl) (fun listed a w' => ∃ xs : Nat → Value, a = { tmps := #[.pointer (some ⟨g, 0, none⟩), .agg #[.int .i64 sz, .int .i64 mn, .int .i64 rs], undef, .pointer (some ⟨w.heap.size, 0, none⟩), .slice none 0 0, .slice (some ⟨b, 0, none⟩) n4 c4, .pointer (some ⟨b, q * 3, none⟩), .agg #[.int .i64 sz, .int .i64 mn, .int .i64 rs], .int .i64 0, .bool false, .agg #[.int .i64 sz, .int .i64 mn, .int .i64 rs], .pointer (some ⟨g, 0, none⟩), .slice A3 n3 c3, .slice (some ⟨b, 0, none⟩) n4 c4, .slice (some ⟨b, 0, none⟩) n4 c4, .int .i64 ↑n4, .bool true, .bool true, .pointer (some ⟨g, 0, none⟩), .bool true, .bool true, .slice (some ⟨b, 0, none⟩) n4 c4, .pointer (some ⟨g, 0, none⟩), .slice (some ⟨b, 0, none⟩) n4 c4, .int .i64 ↑n4, .int .i64 (q : Int), .pointer (some ⟨b, q * 3, none⟩), xs 0, xs 1, xs 2, xs 3, xs 4, xs 5, xs 6, xs 7, xs 8, xs 9, xs 10, xs 11, xs 12, xs 13, xs 14, xs 15, xs 16, xs 17, xs 18, xs 19, xs 20, xs 21, xs 22, xs 23, xs 24, xs 25, xs 26, xs 27, xs 28, xs 29, xs 30, xs 31, xs 32, xs 34, xs 35, xs 37, xs 38, undef], defers := [] } ∧ (∀ j, listed.getD j false = true → CT 3 9 144 pcE [.val (.pointer (some ⟨b, q * 3, none⟩)), .val (.pointer (some ⟨b, q * 3, none⟩)), .val (.pointer (some ⟨b, q * 3, none⟩)), .val (.pointer (some ⟨g, 0, none⟩)), .val (.pointer (some ⟨b, q * 3, none⟩)), .val (.pointer (some ⟨b, q * 3, none⟩)), .val (.pointer (some ⟨b, q * 3, none⟩)), .str, .val (.slice (some ⟨b, 0, none⟩) n4 c4), .val (.pointer (some ⟨b, 0, none⟩)), .val (.pointer (some ⟨b, 0, none⟩)), .str, .strs 3, .str, .val (.pointer (some ⟨g, 0, none⟩)), .val (.pointer (some ⟨b, q * 3, none⟩)), .val (.pointer (some ⟨b, q * 3, none⟩)), .val (.pointer (some ⟨b, q * 3 + 1, none⟩)), .num, .val (.pointer (some ⟨w.heap.size, 1, none⟩)), .val (.int .i64 mn), .int 2 6, .ints 4, .num, .val (.pointer (some ⟨g, 0, none⟩)), .val (.pointer (some ⟨b, q * 3, none⟩)), .val (.pointer (some ⟨b, q * 3, none⟩)), .val (.pointer (some ⟨b, q * 3 + 2, none⟩)), .num, .ints 3, .num, .val (.pointer (some ⟨b, q * 3, none⟩)), .val (.pointer (some ⟨b, q * 3, none⟩)), .any, .val (.pointer (some ⟨b, q * 3, none⟩)), .val (.pointer (some ⟨b, q * 3 + 1, none⟩)), .any, .val (.pointer (some ⟨b, q * 3, none⟩)), .val (.pointer (some ⟨b, q * 3 + 2, none⟩)), .any] j w' (xs j)) ∧ MW1 w7 g zs 144 pcE 3 w.heap.size b n4 c4 (k3 + 1 + 1 + 10) [13, 23, 30] listed w') ?h0 (AllOps.of ?hs) ?he
    case h0 => exact ⟨fun j => match j with | 0 => undef | 1 => undef | 2 => undef | 3 => undef | 4 => undef | 5 => undef | 6 => undef | 7 => undef | 8 => undef | 9 => undef | 10 => undef | 11 => undef | 12 => undef | 13 => undef | 14 => undef | 15 => undef | 16 => undef | 17 => undef | 18 => undef | 19 => undef | 20 => undef | 21 => undef | 22 => undef | 23 => undef | 24 => undef | 25 => undef | 26 => undef | 27 => undef | 28 => undef | 29 => undef | 30 => undef | 31 => undef | 32 => undef | 34 => undef | 35 => undef | 37 => undef | 38 => undef | _ => undef, rfl, (fun j hj => by rw [rep_false] at hj; cases hj), MW1.start s7 ho7' hl4 (by first | (simp; done) | (simp; omega))⟩
    case hs =>
      refine ⟨?_, ?_, ?_, ?_, ?_, ?_, ?_, ?_, ?_, ?_, ?_, ?_, ?_, ?_, ?_, ?_, ?_, ?_, ?_, ?_, ?_, ?_, ?_, ?_, ?_, ?_, ?_, ?_, ?_, ?_, ?_, ?_, ?_, ?_, ?_, ?_, ?_, ?_, ?_, ?_, trivial⟩
      · intro listed a w' hs hI h0 hd K' hK
        obtain ⟨xs, rfl, hC, hW⟩ := hI
        have hK2 := Lib.hid hK
        have hC2 := Lib.hid hC
        clear hd hK hC h0
        go_simp
        exact hK2.out _ _ ⟨updV xs 0 (.pointer (some ⟨b, q * 3, none⟩)), by simp [updV], cond_set hC2.out (fun _ _ h => h) rfl, hW.keep (by decide)⟩
      · intro listed a w' hs hI h0 hd K' hK
        obtain ⟨xs, rfl, hC, hW⟩ := hI
        have hK2 := Lib.hid hK
        have hC2 := Lib.hid hC
        clear hd hK hC h0
        go_simp
        exact hK2.out _ _ ⟨updV xs 1 (.pointer (some ⟨b, q * 3, none⟩)), by simp [updV], cond_set hC2.out (fun _ _ h => h) rfl, hW.keep (by decide)⟩
      · intro listed a w' hs hI h0 hd K' hK
        obtain ⟨xs, rfl, hC, hW⟩ := hI
        have hK2 := Lib.hid hK
        have hC2 := Lib.hid hC
        clear hd hK hC h0
        go_simp
        exact hK2.out _ _ ⟨updV xs 2 (.pointer (some ⟨b, q * 3, none⟩)), by simp [updV], cond_set hC2.out (fun _ _ h => h) rfl, hW.keep (by decide)⟩
      · intro listed a w' hs hI h0 hd K' hK
        obtain ⟨xs, rfl, hC, hW⟩ := hI
        have hK2 := Lib.hid hK
        have hC2 := Lib.hid hC
        clear hd hK hC h0
        go_simp
        exact hK2.out _ _ ⟨updV xs 3 (.pointer (some ⟨g, 0, none⟩)), by simp [updV], cond_set hC2.out (fun _ _ h => h) rfl, hW.keep (by decide)⟩
      · intro listed a w' hs hI h0 hd K' hK
        obtain ⟨xs, rfl, hC, hW⟩ := hI
        have hK2 := Lib.hid hK
        have hC2 := Lib.hid hC
        clear hd hK hC h0
        go_simp
        exact hK2.out _ _ ⟨updV xs 4 (.pointer (some ⟨b, q * 3, none⟩)), by simp [updV], cond_set hC2.out (fun _ _ h => h) rfl, hW.keep (by decide)⟩
      · intro listed a w' hs hI h0 hd K' hK
        obtain ⟨xs, rfl, hC, hW⟩ := hI
        have e4 : xs 4 = (.pointer (some ⟨b, q * 3, none⟩)) := hC 4 (hd ⟨4, .data⟩ (by simp) rfl)
        have hK2 := Lib.hid hK
        have hC2 := Lib.hid hC
        clear hd hK hC h0
        go_simp
        exact hK2.out _ _ ⟨updV xs 5 (.pointer (some ⟨b, q * 3, none⟩)), by simp [updV, e4], cond_set hC2.out (fun _ _ h => h) rfl, hW.keep (by decide)⟩
      · intro listed a w' hs hI h0 hd K' hK
        obtain ⟨xs, rfl, hC, hW⟩ := hI
        have e5 : xs 5 = (.pointer (some ⟨b, q * 3, none⟩)) := hC 5 (hd ⟨5, .data⟩ (by simp) rfl)
        have hK2 := Lib.hid hK
        have hC2 := Lib.hid hC
        clear hd hK hC h0
        go_simp
        exact hK2.out _ _ ⟨updV xs 6 (.pointer (some ⟨b, q * 3, none⟩)), by simp [updV, e5], cond_set hC2.out (fun _ _ h => h) rfl, hW.keep (by decide)⟩
      · intro listed a w' hs hI h0 hd K' hK
        obtain ⟨xs, rfl, hC, hW⟩ := hI
        have e6 : xs 6 = (.pointer (some ⟨b, q * 3, none⟩)) := hC 6 (hd ⟨6, .data⟩ (by simp) rfl)
        have hK2 := Lib.hid hK
        have hC2 := Lib.hid hC
        obtain ⟨u9, c9, ⟨x9, rfl⟩, f9⟩ := hW.load pcK (s := 3) rfl (q := q) (d := 0) hq (by decide)
        rw [Nat.add_zero] at c9
        clear hd hK hC h0
        go_simp
        exact hK2.out _ _ ⟨updV xs 7 (.string x9), by simp [updV, e6], cond_set hC2.out (fun _ _ h => h) ⟨_, rfl⟩, hW.keep (by decide)⟩
      · intro listed a w' hs hI h0 hd K' hK
        obtain ⟨xs, rfl, hC, hW⟩ := hI
        have hK2 := Lib.hid hK
        have hC2 := Lib.hid hC
        clear hd hK hC h0
        go_simp
        exact hK2.out _ _ ⟨updV xs 8 (.slice (some ⟨b, 0, none⟩) n4 c4), by simp [updV], cond_set hC2.out (fun _ _ h => h) rfl, hW.keep (by decide)⟩
      · intro listed a w' hs hI h0 hd K' hK
        obtain ⟨xs, rfl, hC, hW⟩ := hI
        have e8 : xs 8 = (.slice (some ⟨b, 0, none⟩) n4 c4) := hC 8 (hd ⟨8, .data⟩ (by simp) rfl)
        have hK2 := Lib.hid hK
        have hC2 := Lib.hid hC
        clear hd hK hC h0
        go_simp
        exact hK2.out _ _ ⟨updV xs 9 (.pointer (some ⟨b, 0, none⟩)), by simp [updV, e8], cond_set hC2.out (fun _ _ h => h) rfl, hW.keep (by decide)⟩
      · intro listed a w' hs hI h0 hd K' hK
        obtain ⟨xs, rfl, hC, hW⟩ := hI
        have e9 : xs 9 = (.pointer (some ⟨b, 0, none⟩)) := hC 9 (hd ⟨9, .data⟩ (by simp) rfl)
        have hK2 := Lib.hid hK
        have hC2 := Lib.hid hC
        clear hd hK hC h0
        go_simp
        exact hK2.out _ _ ⟨updV xs 10 (.pointer (some ⟨b, 0, none⟩)), by simp [updV, e9], cond_set hC2.out (fun _ _ h => h) rfl, hW.keep (by decide)⟩
      · intro listed a w' hs hI h0 hd K' hK
        obtain ⟨xs, rfl, hC, hW⟩ := hI
        have e10 : xs 10 = (.pointer (some ⟨b, 0, none⟩)) := hC 10 (hd ⟨10, .data⟩ (by simp) rfl)
        have hK2 := Lib.hid hK
        have hC2 := Lib.hid hC
        obtain ⟨u9, c9, ⟨x9, rfl⟩, f9⟩ := hW.load pcK (s := 3) rfl (q := 0) (d := 0) hp (by decide)
        rw [Nat.zero_mul, Nat.add_zero] at c9
        clear hd hK hC h0
        go_simp
        exact hK2.out _ _ ⟨updV xs 11 (.string x9), by simp [updV, e10], cond_set hC2.out (fun _ _ h => h) ⟨_, rfl⟩, hW.keep (by decide)⟩
      · intro listed a w' hs hI h0 hd K' hK
        obtain ⟨xs, rfl, hC, hW⟩ := hI
        obtain ⟨v7, e7⟩ : ∃ v : ByteArray, xs 7 = .string v := hC 7 (hd ⟨7, .data⟩ (by simp) rfl)
        obtain ⟨v11, e11⟩ : ∃ v : ByteArray, xs 11 = .string v := hC 11 (hd ⟨11, .data⟩ (by simp) rfl)
        have hK2 := Lib.hid hK
        have hC2 := Lib.hid hC
        clear hd hK hC h0
        go_simp
        exact hK2.out _ _ ⟨updV xs 12 (.slice (some ⟨w'.heap.size, 0, none⟩) 3 3), by simp [updV, e7, e11], cond_set hC2.out (fun j v h => Sat.alloc _ _ _ h) ⟨w'.heap.size, [v7, ⟨#[]⟩, v11], rfl, rfl, heap_alloc_new w' _⟩, ((hW.alloc _).keep (by decide))⟩
      · intro listed a w' hs hI h0 hd K' hK
        obtain ⟨xs, rfl, hC, hW⟩ := hI
        have e3 : xs 3 = (.pointer (some ⟨g, 0, none⟩)) := hC 3 (hd ⟨3, .data⟩ (by simp) rfl)
        obtain ⟨z12, l12, e12, hl12, hz12⟩ : ∃ (z : Nat) (l : List ByteArray), xs 12 = .slice (some ⟨z, 0, none⟩) 3 3 ∧ l.length = 3 ∧ w'.heap[z]? = some (.cells (l.map Value.string).toArray 9 (0, 0)) := hC 12 (hd ⟨12, .data⟩ (by simp) rfl)
        have hK2 := Lib.hid hK
        have hC2 := Lib.hid hC
        obtain ⟨k9, s9, hk9, hnx⟩ := MW1.call hglt hW h0 (by decide) (by decide)
        have r9 : RS 9 w' (some ⟨z12, 0, none⟩) 3 l12 := R1.of_lit hz12 rfl hl12 (by decide)
        clear h0
        clear hd hK hC
        go_simp
        refine (some_c g zs _ _ _ _ _ _ s9 (by omega) r9 (by decide)).mono ?_; rintro e w1 ⟨rfl, s10, g10⟩
        exact hK2.out _ _ ⟨updV xs 13 (.string (pickV zs k9 l12)), by simp [updV, e3, e12], cond_set hC2.out (fun j v h => Sat.stream (s9.keep g10) (by decide) (by decide) (by decide) _ _ h) ⟨_, rfl⟩, hnx _ _ (by omega) s10 g10⟩
      · intro listed a w' hs hI h0 hd K' hK
        obtain ⟨xs, rfl, hC, hW⟩ := hI
        have hK2 := Lib.hid hK
        have hC2 := Lib.hid hC
        clear hd hK hC h0
        go_simp
        exact hK2.out _ _ ⟨updV xs 14 (.pointer (some ⟨g, 0, none⟩)), by simp [updV], cond_set hC2.out (fun _ _ h => h) rfl, hW.keep (by decide)⟩
      · intro listed a w' hs hI h0 hd K' hK
        obtain ⟨xs, rfl, hC, hW⟩ := hI
        have hK2 := Lib.hid hK
        have hC2 := Lib.hid hC
        clear hd hK hC h0
        go_simp
        exact hK2.out _ _ ⟨updV xs 15 (.pointer (some ⟨b, q * 3, none⟩)), by simp [updV], cond_set hC2.out (fun _ _ h => h) rfl, hW.keep (by decide)⟩
      · intro listed a w' hs hI h0 hd K' hK
        obtain ⟨xs, rfl, hC, hW⟩ := hI
        have e15 : xs 15 = (.pointer (some ⟨b, q * 3, none⟩)) := hC 15 (hd ⟨15, .data⟩ (by simp) rfl)
        have hK2 := Lib.hid hK
        have hC2 := Lib.hid hC
        clear hd hK hC h0
        go_simp
        exact hK2.out _ _ ⟨updV xs 16 (.pointer (some ⟨b, q * 3, none⟩)), by simp [updV, e15], cond_set hC2.out (fun _ _ h => h) rfl, hW.keep (by decide)⟩
      · intro listed a w' hs hI h0 hd K' hK
        obtain ⟨xs, rfl, hC, hW⟩ := hI
        have e16 : xs 16 = (.pointer (some ⟨b, q * 3, none⟩)) := hC 16 (hd ⟨16, .data⟩ (by simp) rfl)
        have hK2 := Lib.hid hK
        have hC2 := Lib.hid hC
        clear hd hK hC h0
        go_simp
        exact hK2.out _ _ ⟨updV xs 17 (.pointer (some ⟨b, q * 3 + 1, none⟩)), by simp [updV, e16], cond_set hC2.out (fun _ _ h => h) rfl, hW.keep (by decide)⟩
      · intro listed a w' hs hI h0 hd K' hK
        obtain ⟨xs, rfl, hC, hW⟩ := hI
        have e17 : xs 17 = (.pointer (some ⟨b, q * 3 + 1, none⟩)) := hC 17 (hd ⟨17, .data⟩ (by simp) rfl)
        have hK2 := Lib.hid hK
        have hC2 := Lib.hid hC
        obtain ⟨u9, c9, ⟨x9, rfl⟩, f9⟩ := hW.load pcK (s := 3) rfl (q := q) (d := 1) hq (by decide)
        clear hd hK hC h0
        go_simp
        exact hK2.out _ _ ⟨updV xs 18 (.int .i64 x9), by simp [updV, e17], cond_set hC2.out (fun _ _ h => h) ⟨_, rfl⟩, hW.keep (by decide)⟩
      · intro listed a w' hs hI h0 hd K' hK
        obtain ⟨xs, rfl, hC, hW⟩ := hI
        have hK2 := Lib.hid hK
        have hC2 := Lib.hid hC
        clear hd hK hC h0
        go_simp
        exact hK2.out _ _ ⟨updV xs 19 (.pointer (some ⟨w.heap.size, 1, none⟩)), by simp [updV], cond_set hC2.out (fun _ _ h => h) rfl, hW.keep (by decide)⟩
      · intro listed a w' hs hI h0 hd K' hK
        obtain ⟨xs, rfl, hC, hW⟩ := hI
        have e19 : xs 19 = (.pointer (some ⟨w.heap.size, 1, none⟩)) := hC 19 (hd ⟨19, .data⟩ (by simp) rfl)
        have hK2 := Lib.hid hK
        have hC2 := Lib.hid hC
        have c9 := hW.cell (blk_cell pb7 1 rfl) (by show w.heap.size ≠ g; omega) (by show w.heap.size ≠ b; omega)
        clear hd hK hC h0
        go_simp
        exact hK2.out _ _ ⟨updV xs 20 (.int .i64 mn), by simp [updV, e19], cond_set hC2.out (fun _ _ h => h) rfl, hW.keep (by decide)⟩
      · intro listed a w' hs hI h0 hd K' hK
        obtain ⟨xs, rfl, hC, hW⟩ := hI
        have e20 : xs 20 = (.int .i64 mn) := hC 20 (hd ⟨20, .data⟩ (by simp) rfl)
        have hK2 := Lib.hid hK
        have hC2 := Lib.hid hC
        clear hd hK hC h0
        go_simp
        exact hK2.out _ _ ⟨updV xs 21 (.int .i64 (mn + 1)), by simp [updV, e20], cond_set hC2.out (fun _ _ h => h) ⟨_, rfl, by omega, by omega⟩, hW.keep (by decide)⟩
      · intro listed a w' hs hI h0 hd K' hK
        obtain ⟨xs, rfl, hC, hW⟩ := hI
        obtain ⟨v18, e18⟩ : ∃ v : Int, xs 18 = .int .i64 v := hC 18 (hd ⟨18, .data⟩ (by simp) rfl)
        obtain ⟨v21, e21, a21, b21⟩ : ∃ v : Int, xs 21 = .int .i64 v ∧ 2 ≤ v ∧ v ≤ 6 := hC 21 (hd ⟨21, .data⟩ (by simp) rfl)
        have hK2 := Lib.hid hK
        have hC2 := Lib.hid hC
        clear hd hK hC h0
        go_simp
        exact hK2.out _ _ ⟨updV xs 22 (.slice (some ⟨w'.heap.size, 0, none⟩) 4 4), by simp [updV, e18, e21], cond_set hC2.out (fun j v h => Sat.alloc _ _ _ h) ⟨w'.heap.size, [v18, 0, 1, v21], rfl, rfl, heap_alloc_new w' _⟩, ((hW.alloc _).keep (by decide))⟩
      · intro listed a w' hs hI h0 hd K' hK
        obtain ⟨xs, rfl, hC, hW⟩ := hI
        have e14 : xs 14 = (.pointer (some ⟨g, 0, none⟩)) := hC 14 (hd ⟨14, .data⟩ (by simp) rfl)
        obtain ⟨z22, l22, e22, hl22, hz22⟩ : ∃ (z : Nat) (l : List Int), xs 22 = .slice (some ⟨z, 0, none⟩) 4 4 ∧ l.length = 4 ∧ w'.heap[z]? = some (.cells (ints l).toArray 3 (0, 0)) := hC 22 (hd ⟨22, .data⟩ (by simp) rfl)
        have hK2 := Lib.hid hK
        have hC2 := Lib.hid hC
        obtain ⟨k9, s9, hk9, hnx⟩ := MW1.call hglt hW h0 (by decide) (by decide)
        have r9 : RI 3 w' (some ⟨z22, 0, none⟩) 4 l22 := R1.of_lit hz22 rfl hl22 (by decide)
        clear h0
        clear hd hK hC
        go_simp
        refine (pickE_c g zs _ _ _ _ _ _ s9 (by omega) r9 (by decide)).mono ?_; rintro e w1 ⟨v, rfl, hv9, s10, g10⟩
        exact hK2.out _ _ ⟨updV xs 23 (.int .i64 v), by simp [updV, e14, e22], cond_set hC2.out (fun j v h => Sat.stream (s9.keep g10) (by decide) (by decide) (by decide) _ _ h) ⟨_, rfl⟩, hnx _ _ (by omega) s10 g10⟩
      · intro listed a w' hs hI h0 hd K' hK
        obtain ⟨xs, rfl, hC, hW⟩ := hI
        have hK2 := Lib.hid hK
        have hC2 := Lib.hid hC
        clear hd hK hC h0
        go_simp
        exact hK2.out _ _ ⟨updV xs 24 (.pointer (some ⟨g, 0, none⟩)), by simp [updV], cond_set hC2.out (fun _ _ h => h) rfl, hW.keep (by decide)⟩
      · intro listed a w' hs hI h0 hd K' hK
        obtain ⟨xs, rfl, hC, hW⟩ := hI
        have hK2 := Lib.hid hK
        have hC2 := Lib.hid hC
        clear hd hK hC h0
        go_simp
        exact hK2.out _ _ ⟨updV xs 25 (.pointer (some ⟨b, q * 3, none⟩)), by simp [updV], cond_set hC2.out (fun _ _ h => h) rfl, hW.keep (by decide)⟩
      · intro listed a w' hs hI h0 hd K' hK
        obtain ⟨xs, rfl, hC, hW⟩ := hI
        have e25 : xs 25 = (.pointer (some ⟨b, q * 3, none⟩)) := hC 25 (hd ⟨25, .data⟩ (by simp) rfl)
        have hK2 := Lib.hid hK
        have hC2 := Lib.hid hC
        clear hd hK hC h0
        go_simp
        exact hK2.out _ _ ⟨updV xs 26 (.pointer (some ⟨b, q * 3, none⟩)), by simp [updV, e25], cond_set hC2.out (fun _ _ h => h) rfl, hW.keep (by decide)⟩
      · intro listed a w' hs hI h0 hd K' hK
        obtain ⟨xs, rfl, hC, hW⟩ := hI
        have e26 : xs 26 = (.pointer (some ⟨b, q * 3, none⟩)) := hC 26 (hd ⟨26, .data⟩ (by simp) rfl)
        have hK2 := Lib.hid hK
        have hC2 := Lib.hid hC
        clear hd hK hC h0
        go_simp
        exact hK2.out _ _ ⟨updV xs 27 (.pointer (some ⟨b, q * 3 + 2, none⟩)), by simp [updV, e26], cond_set hC2.out (fun _ _ h => h) rfl, hW.keep (by decide)⟩
      · intro listed a w' hs hI h0 hd K' hK
        obtain ⟨xs, rfl, hC, hW⟩ := hI
        have e27 : xs 27 = (.pointer (some ⟨b, q * 3 + 2, none⟩)) := hC 27 (hd ⟨27, .data⟩ (by simp) rfl)
        have hK2 := Lib.hid hK
        have hC2 := Lib.hid hC
        obtain ⟨u9, c9, ⟨x9, rfl⟩, f9⟩ := hW.load pcK (s := 3) rfl (q := q) (d := 2) hq (by decide)
        clear hd hK hC h0
        go_simp
        exact hK2.out _ _ ⟨updV xs 28 (.int .i64 x9), by simp [updV, e27], cond_set hC2.out (fun _ _ h => h) ⟨_, rfl⟩, hW.keep (by decide)⟩
      · intro listed a w' hs hI h0 hd K' hK
        obtain ⟨xs, rfl, hC, hW⟩ := hI
        obtain ⟨v28, e28⟩ : ∃ v : Int, xs 28 = .int .i64 v := hC 28 (hd ⟨28, .data⟩ (by simp) rfl)
        have hK2 := Lib.hid hK
        have hC2 := Lib.hid hC
        clear hd hK hC h0
        go_simp
        exact hK2.out _ _ ⟨updV xs 29 (.slice (some ⟨w'.heap.size, 0, none⟩) 3 3), by simp [updV, e28], cond_set hC2.out (fun j v h => Sat.alloc _ _ _ h) ⟨w'.heap.size, [v28, 0, 1], rfl, rfl, heap_alloc_new w' _⟩, ((hW.alloc _).keep (by decide))⟩
      · intro listed a w' hs hI h0 hd K' hK
        obtain ⟨xs, rfl, hC, hW⟩ := hI
        have e24 : xs 24 = (.pointer (some ⟨g, 0, none⟩)) := hC 24 (hd ⟨24, .data⟩ (by simp) rfl)
        obtain ⟨z29, l29, e29, hl29, hz29⟩ : ∃ (z : Nat) (l : List Int), xs 29 = .slice (some ⟨z, 0, none⟩) 3 3 ∧ l.length = 3 ∧ w'.heap[z]? = some (.cells (ints l).toArray 3 (0, 0)) := hC 29 (hd ⟨29, .data⟩ (by simp) rfl)
        have hK2 := Lib.hid hK
        have hC2 := Lib.hid hC
        obtain ⟨k9, s9, hk9, hnx⟩ := MW1.call hglt hW h0 (by decide) (by decide)
        have r9 : RI 3 w' (some ⟨z29, 0, none⟩) 3 l29 := R1.of_lit hz29 rfl hl29 (by decide)
        clear h0
        clear hd hK hC
        go_simp
        refine (pickE_c g zs _ _ _ _ _ _ s9 (by omega) r9 (by decide)).mono ?_; rintro e w1 ⟨v, rfl, hv9, s10, g10⟩
        exact hK2.out _ _ ⟨updV xs 30 (.int .i64 v), by simp [updV, e24, e29], cond_set hC2.out (fun j v h => Sat.stream (s9.keep g10) (by decide) (by decide) (by decide) _ _ h) ⟨_, rfl⟩, hnx _ _ (by omega) s10 g10⟩
      · intro listed a w' hs hI h0 hd K' hK
        obtain ⟨xs, rfl, hC, hW⟩ := hI
        have e0 : xs 0 = (.pointer (some ⟨b, q * 3, none⟩)) := hC 0 (hd ⟨0, .data⟩ (by simp) rfl)
        have hK2 := Lib.hid hK
        have hC2 := Lib.hid hC
        clear hd hK hC h0
        go_simp
        exact hK2.out _ _ ⟨updV xs 31 (.pointer (some ⟨b, q * 3, none⟩)), by simp [updV, e0], cond_set hC2.out (fun _ _ h => h) rfl, hW.keep (by decide)⟩
      · intro listed a w' hs hI h0 hd K' hK
        obtain ⟨xs, rfl, hC, hW⟩ := hI
        have e31 : xs 31 = (.pointer (some ⟨b, q * 3, none⟩)) := hC 31 (hd ⟨31, .data⟩ (by simp) rfl)
        have hK2 := Lib.hid hK
        have hC2 := Lib.hid hC
        clear hd hK hC h0
        go_simp
        exact hK2.out _ _ ⟨updV xs 32 (.pointer (some ⟨b, q * 3, none⟩)), by simp [updV, e31], cond_set hC2.out (fun _ _ h => h) rfl, hW.keep (by decide)⟩
      · intro listed a w' hs hI h0 hd K' hK
        obtain ⟨xs, rfl, hC, hW⟩ := hI
        obtain ⟨v13, e13⟩ : ∃ v : ByteArray, xs 13 = .string v := hC 13 (hd ⟨13, .data⟩ (by simp) rfl)
        have e32 : xs 32 = (.pointer (some ⟨b, q * 3, none⟩)) := hC 32 (hd ⟨32, .data⟩ (by simp) rfl)
        have hK2 := Lib.hid hK
        have hC2 := Lib.hid hC
        obtain ⟨u9, c9, _, f9⟩ := hW.load pcK (s := 3) rfl (q := q) (d := 0) hq (by decide)
        obtain ⟨cs9, hcs9⟩ := hW.blk
        have hS9 := Lib.hid (MW1.store pcK (s := 3) rfl hglt hW (q := q) (d := 0) hq (by decide) (v := .string v13) ⟨_, rfl⟩)
        rw [Nat.add_zero] at c9 f9 hS9
        clear hd hK hC h0
        go_simp
        exact hK2.out _ _ ⟨updV xs 33 (undef), by simp [updV, e13, e32], cond_set hC2.out (fun j v h => Sat.set pcK hcs9 (by decide) (by decide) (okAt (q := q) (s := 3) (c := 0) rfl rfl ⟨_, rfl⟩) _ _ h) trivial, hS9.out.keep (by decide)⟩
      · intro listed a w' hs hI h0 hd K' hK
        obtain ⟨xs, rfl, hC, hW⟩ := hI
        have e1 : xs 1 = (.pointer (some ⟨b, q * 3, none⟩)) := hC 1 (hd ⟨1, .data⟩ (by simp) rfl)
        have hK2 := Lib.hid hK
        have hC2 := Lib.hid hC
        clear hd hK hC h0
        go_simp
        exact hK2.out _ _ ⟨updV xs 34 (.pointer (some ⟨b, q * 3, none⟩)), by simp [updV, e1], cond_set hC2.out (fun _ _ h => h) rfl, hW.keep (by decide)⟩
      · intro listed a w' hs hI h0 hd K' hK
        obtain ⟨xs, rfl, hC, hW⟩ := hI
        have e34 : xs 34 = (.pointer (some ⟨b, q * 3, none⟩)) := hC 34 (hd ⟨34, .data⟩ (by simp) rfl)
        have hK2 := Lib.hid hK
        have hC2 := Lib.hid hC
        clear hd hK hC h0
        go_simp
        exact hK2.out _ _ ⟨updV xs 35 (.pointer (some ⟨b, q * 3 + 1, none⟩)), by simp [updV, e34], cond_set hC2.out (fun _ _ h => h) rfl, hW.keep (by decide)⟩
      · intro listed a w' hs hI h0 hd K' hK
        obtain ⟨xs, rfl, hC, hW⟩ := hI
        obtain ⟨v23, e23⟩ : ∃ v : Int, xs 23 = .int .i64 v := hC 23 (hd ⟨23, .data⟩ (by simp) rfl)
        have e35 : xs 35 = (.pointer (some ⟨b, q * 3 + 1, none⟩)) := hC 35 (hd ⟨35, .data⟩ (by simp) rfl)
        have hK2 := Lib.hid hK
        have hC2 := Lib.hid hC
        obtain ⟨u9, c9, _, f9⟩ := hW.load pcK (s := 3) rfl (q := q) (d := 1) hq (by decide)
        obtain ⟨cs9, hcs9⟩ := hW.blk
        have hS9 := Lib.hid (MW1.store pcK (s := 3) rfl hglt hW (q := q) (d := 1) hq (by decide) (v := .int .i64 v23) ⟨_, rfl⟩)
        clear hd hK hC h0
        go_simp
        exact hK2.out _ _ ⟨updV xs 36 (undef), by simp [updV, e23, e35], cond_set hC2.out (fun j v h => Sat.set pcK hcs9 (by decide) (by decide) (okAt (q := q) (s := 3) (c := 1) rfl rfl ⟨_, rfl⟩) _ _ h) trivial, hS9.out.keep (by decide)⟩
      · intro listed a w' hs hI h0 hd K' hK
        obtain ⟨xs, rfl, hC, hW⟩ := hI
        have e2 : xs 2 = (.pointer (some ⟨b, q * 3, none⟩)) := hC 2 (hd ⟨2, .data⟩ (by simp) rfl)
        have hK2 := Lib.hid hK
        have hC2 := Lib.hid hC
        clear hd hK hC h0
        go_simp
        exact hK2.out _ _ ⟨updV xs 37 (.pointer (some ⟨b, q * 3, none⟩)), by simp [updV, e2], cond_set hC2.out (fun _ _ h => h) rfl, hW.keep (by decide)⟩
      · intro listed a w' hs hI h0 hd K' hK
        obtain ⟨xs, rfl, hC, hW⟩ := hI
        have e37 : xs 37 = (.pointer (some ⟨b, q * 3, none⟩)) := hC 37 (hd ⟨37, .data⟩ (by simp) rfl)
        have hK2 := Lib.hid hK
        have hC2 := Lib.hid hC
        clear hd hK hC h0
        go_simp
        exact hK2.out _ _ ⟨updV xs 38 (.pointer (some ⟨b, q * 3 + 2, none⟩)), by simp [updV, e37], cond_set hC2.out (fun _ _ h => h) rfl, hW.keep (by decide)⟩
      · intro listed a w' hs hI h0 hd K' hK
        obtain ⟨xs, rfl, hC, hW⟩ := hI
        obtain ⟨v30, e30⟩ : ∃ v : Int, xs 30 = .int .i64 v := hC 30 (hd ⟨30, .data⟩ (by simp) rfl)
        have e38 : xs 38 = (.pointer (some ⟨b, q * 3 + 2, none⟩)) := hC 38 (hd ⟨38, .data⟩ (by simp) rfl)
        have hK2 := Lib.hid hK
        have hC2 := Lib.hid hC
        obtain ⟨u9, c9, _, f9⟩ := hW.load pcK (s := 3) rfl (q := q) (d := 2) hq (by decide)
        obtain ⟨cs9, hcs9⟩ := hW.blk
        have hS9 := Lib.hid (MW1.store pcK (s := 3) rfl hglt hW (q := q) (d := 2) hq (by decide) (v := .int .i64 v30) ⟨_, rfl⟩)
        clear hd hK hC h0
        go_simp
        exact hK2.out _ _ ⟨updV xs 39 (undef), by simp [updV, e30, e38], cond_set hC2.out (fun j v h => Sat.set pcK hcs9 (by decide) (by decide) (okAt (q := q) (s := 3) (c := 2) rfl rfl ⟨_, rfl⟩) _ _ h) trivial, hS9.out.keep (by decide)⟩
    case he =>
      intro listed a w' hs hI hr
      obtain ⟨xs, rfl, hC, hW⟩ := hI
      clear hC hs hr
      obtain ⟨k10, l10, s10, o10, hl10, g10, hk10⟩ := hW.out hg7 (Nat.le_refl _)
      clear hW
      go_wp2
      go_ret
      exact ⟨_, n4, c4, l10, k10, rfl, o10, hl10, by omega, s10, by omega, g10⟩
end Go.Proofs.YtklggnglaeagpaaGreatDoor
