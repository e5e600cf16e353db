/- PassesChangeSides: passes seen from either side are the same, rise and lie before the end: the walk. -/
import Derived.Test.YtlddeeagnlgciaaGreatDoorPassY
import Derived.Test.YtlddeeagnlgciaaGreatDoorPassO
import Derived.Test.YtlddeeagnlgciaaGreatDoorP40
import Derived.Test.YtlddeeagnlgciaaGreatDoorP17
import Derived.Test.YtlddeeagnlgciaaGreatDoorReady
import Derived.Test.YtlddeeagnlgciaaGreatDoorDraws
import Derived.Deep.RegionHeld3
import Derived.Deep.DeepCutAuto
namespace Go.Proofs.YtlddeeagnlgciaaGreatDoor
open Go.RowKit
set_option linter.unusedVariables false

theorem equalFr_one (A1 A2 : Option Addr) (n c m d : Nat) (l : List (Int × Int)) (w : World) (h1 : RFr w A1 n l) (h2 : RFr w A2 m l) :
    Calls Tryz.prog 42 #[.slice A1 n c, .slice A2 m d] w fun e w' => e = .returned (.bool true) ∧ Below w.heap.size w w' := by
  refine (equalFr_c A1 A2 n c m d l l w h1 h2).mono ?_
  rintro e w' ⟨rfl, q, rfl⟩
  exact ⟨by simp, below_drewN (Below.refl _ _) q⟩
def sa : ByteArray := ⟨#[115, 97]⟩
def sb : ByteArray := ⟨#[115, 98]⟩
/-- two swimmers, as they lie in one row -/
def twoL (A1 A2 : Option Addr) (n1 c1 n2 c2 : Nat) (la lb : List Int) : List Sw := [⟨sa, A1, n1, c1, la⟩, ⟨sb, A2, n2, c2, lb⟩]
theorem two_row {w : World} {b : Nat} {A1 A2 : Option Addr} {n1 c1 n2 c2 : Nat} {la lb : List Int} (h : w.heap[b]? = some (.cells #[.string ⟨#[115, 97]⟩, .slice A1 n1 c1, .string ⟨#[115, 98]⟩, .slice A2 n2 c2] 34 (0, 0))) (ha : RI 3 w A1 n1 la) (hb : RI 3 w A2 n2 lb) : RSw w (some ⟨b, 0, none⟩) 2 (twoL A1 A2 n1 c1 n2 c2 la lb) := by
  refine ⟨⟨rfl, by omega, fun _ => ⟨_, 0, _, _, rfl, h, fun j x hx i v hv => ?_⟩⟩, fun x hx => ?_⟩
  · rcases j with _ | _ | j
    · obtain rfl : (⟨sa, A1, n1, c1, la⟩ : Sw) = x := by simpa [twoL] using hx
      rcases i with _ | _ | i
      · exact hv
      · exact hv
      · simp [swE] at hv
    · obtain rfl : (⟨sb, A2, n2, c2, lb⟩ : Sw) = x := by simpa [twoL] using hx
      rcases i with _ | _ | i
      · exact hv
      · exact hv
      · simp [swE] at hv
    · simp [twoL] at hx
  · simp only [twoL, List.mem_cons, List.not_mem_nil, or_false] at hx
    rcases hx with rfl | rfl
    · exact ha
    · exact hb
theorem two_field {r : Race} {A1 A2 : Option Addr} {n1 c1 n2 c2 : Nat} {la lb : List Int} (hr : raceErr r = 0) (ha : wholeErr r la = 0) (hb : wholeErr r lb = 0) : fieldErr r (twoL A1 A2 n1 c1 n2 c2 la lb) = 0 := by
  have k1 : keyB sa = true := keys4_key _ (by simp [keys4, sa])
  have k2 : keyB sb = true := keys4_key _ (by simp [keys4, sb])
  have k3 : leS sb sa = false := by
    unfold leS
    rw [ByteArray.toList_eq, ByteArray.toList_eq]
    rfl
  unfold fieldErr
  rw [if_neg (by simpa using hr), if_neg (by simp [twoL])]
  unfold twoL fieldGo
  rw [k1, if_neg (by simp), if_neg (by simp [leO]), if_neg (by simpa using ha)]
  unfold fieldGo
  rw [k2, if_neg (by simp), if_neg (by simp [leO, k3]), if_neg (by simpa using hb)]
  rfl
theorem sab_ne : sa ≠ sb := by decide
theorem two_sp {A1 A2 : Option Addr} {n1 c1 n2 c2 : Nat} {la lb : List Int} : spOf sa (twoL A1 A2 n1 c1 n2 c2 la lb) = some ⟨sa, A1, n1, c1, la⟩ ∧ spOf sb (twoL A1 A2 n1 c1 n2 c2 la lb) = some ⟨sb, A2, n2, c2, lb⟩ := by
  unfold spOf twoL
  refine ⟨by simp, ?_⟩
  rw [List.find?_cons]
  have : decide (sa = sb) = false := decide_eq_false sab_ne
  simp [this]
theorem two_passes {r : Race} {A1 A2 : Option Addr} {n1 c1 n2 c2 : Nat} {la lb : List Int} (hr : raceErr r = 0) (ha : wholeErr r la = 0) (hb : wholeErr r lb = 0) :
    passE r (twoL A1 A2 n1 c1 n2 c2 la lb) sa sb = 0 ∧ passE r (twoL A1 A2 n1 c1 n2 c2 la lb) sb sa = 0 ∧ passD r (twoL A1 A2 n1 c1 n2 c2 la lb) sa sb = passL r.course (r.metres * r.legs) la lb (finP la lb) ∧ passD r (twoL A1 A2 n1 c1 n2 c2 la lb) sb sa = passL r.course (r.metres * r.legs) la lb (finP la lb) := by
  have h0 := two_field (A1 := A1) (A2 := A2) (n1 := n1) (c1 := c1) (n2 := n2) (c2 := c2) hr ha hb
  obtain ⟨s1, s2⟩ := two_sp (A1 := A1) (A2 := A2) (n1 := n1) (c1 := c1) (n2 := n2) (c2 := c2) (la := la) (lb := lb)
  obtain ⟨e1, e2⟩ := passE_ok h0 s1 s2 sab_ne
  obtain ⟨e3, e4⟩ := passE_ok h0 s2 s1 (Ne.symm sab_ne)
  refine ⟨e1, e3, e2, ?_⟩
  rw [e4]
  have hf : finP lb la = finP la lb := by unfold finP; rw [Int.min_comm]
  show passL r.course (r.metres * r.legs) lb la (finP lb la) = _
  rw [hf]
  exact passes_flip (by unfold finP; exact two_of ha hb)
theorem two_inc {r : Race} {la lb : List Int} (ha : wholeErr r la = 0) (hb : wholeErr r lb = 0) : incP (finP la lb) (0, 1) (passL r.course (r.metres * r.legs) la lb (finP la lb)) ∧ 0 ≤ finP la lb ∧ finP la lb ≤ 360000 := by
  have h2 : Two2 r.course (r.metres * r.legs) la lb (finP la lb) := by unfold finP; exact two_of ha hb
  have ba := splits_bd (wholeErr_ok ha).1
  have bb := splits_bd (wholeErr_ok hb).1
  have hf : 0 ≤ finP la lb ∧ finP la lb ≤ 360000 := by
    rcases List.mem_append.1 h2.fm with h9 | h9
    · exact ba.2.2 _ h9
    · exact bb.2.2 _ h9
  refine ⟨passes_inc h2 (fun e h1 h3 => ?_), hf⟩
  obtain ⟨x, hx, hx2⟩ := h2.xa
  obtain ⟨y, hy, hy2⟩ := h2.xb
  exact (meet_den h2.ra h2.rb ba.2.2 bb.2.2 (by omega) (by omega) h1 ⟨x, hx, by omega⟩ ⟨y, hy, by omega⟩).2
theorem incP_at {fin : Int} {a p : Int × Int} {P : List (Int × Int)} {k : Nat} (h : P[k]? = some p) (hi : incP fin a (P.drop k)) : (0 < p.2 ∧ 0 ≤ p.1 ∧ p.2 ≤ 360000 ∧ a.1 * p.2 < p.1 * a.2 ∧ p.1 < fin * p.2) ∧ incP fin p (P.drop (k + 1)) := by
  rw [drop_at h] at hi; exact hi
structure K40 (w : World) (b : Nat) (r : Race) (A : Option Addr) (n : Nat) (l : List Sw) (wx : World) : Prop where
  rc : wx.heap[b]? = some (.cells r.cells 27 (0, 0))
  fd : RSw wx A n l
  bel : Below w.heap.size w wx
theorem K40.below {w : World} {b : Nat} {r : Race} {A : Option Addr} {n : Nat} {l : List Sw} {wx w' : World} (h : K40 w b r A n l wx) (hb : Below wx.heap.size wx w') : K40 w b r A n l w' := ⟨blk_below h.rc hb, h.fd.below hb, below_next h.bel hb⟩
set_option maxHeartbeats 6400000 in
set_option maxRecDepth 100000 in
theorem passesChangeSides_walk (a0 : Option Addr) (len0 cap0 : Nat) (z0 : List Int) (w : World) (w0 : IsRow .i64 w a0 len0 cap0 z0) :
    Calls Tryz.prog 9 #[.slice a0 len0 cap0] w fun e w' => e = .returned (.bool true) ∧ Below w.heap.size w w' := by
  have hs := law_start w0
  clear w0
  generalize z0.take len0 = zs at *
  go_enter Tryz.func9, Tryz.ntmps9
  go_wp2_with fail
  have hs' : St (w.alloc (.cells #[.slice a0 len0 cap0, .int .i64 0] 25)) w.heap.size zs 0 := hs
  refine (plainRace_c w.heap.size zs 0 _ hs' (by omega)).mono ?_; rintro e w1 ⟨rfl, s1, g1⟩
  rw [plainRace_2] at s1
  have hB : Below w.heap.size w w1 := (below_new w _).trans (grown_below g1 (Nat.le_refl _) (by simp))
  clear hs hs' g1
  have hok := plainRace_ok zs 0
  have hkw := Lib.hid (fun k' => ks_whole zs 0 k')
  have hKs := Lib.hid (fun k' W h hk => knownSplits_c w.heap.size zs k' (plainRace zs 0).1 W h hk hok)
  have hKl := Lib.hid (fun k' => show (knownSplits zs k' (plainRace zs 0).1).length = (lenV (plainRace zs 0).1).toNat from ks_length _ _ _)
  generalize (plainRace zs 0).1 = r at *
  have hlb := lenV_bd hok
  have s2 := s1.alloc (.cells r.cells 27)
  have hB2 := hB.alloc hB.size (.cells r.cells 27)
  have hb2 := heap_alloc_new w1 (.cells r.cells 27)
  generalize hb4 : w1.heap.size = b4 at *
  have hlt4 : w.heap.size < b4 := by have := s1.lt; omega
  have hPa := Lib.hid (fun A n c l wa wb W h => Passes_c r A n c l wa wb W h)
  have hTp := Lib.hid (fun A1 A2 n1 c1 n2 c2 la lb h1 h2 => two_passes (A1 := A1) (A2 := A2) (n1 := n1) (c1 := c1) (n2 := n2) (c2 := c2) (la := la) (lb := lb) hok h1 h2)
  have hTi := Lib.hid (fun la lb h1 h2 => two_inc (r := r) (la := la) (lb := lb) h1 h2)
  generalize hMN : (lenV r).toNat = M at *
  have hM1 : 1 ≤ M ∧ M ≤ 240 := by omega
  clear hMN hlb s1 hB hok
  have hKm := Lib.hid (fun A n l wx (h1 : wx.heap[b4]? = some (.cells r.cells 27 (0, 0))) h2 h3 => show K40 w b4 r A n l wx from K40.mk h1 h2 h3)
  have hKr : ∀ A n l wx, K40 w b4 r A n l wx → wx.heap[b4]? = some (.cells r.cells 27 (0, 0)) := fun A n l wx h => h.rc
  have hKF : ∀ A n l wx, K40 w b4 r A n l wx → RSw wx A n l := fun A n l wx h => h.fd
  have hKB : ∀ A n l wx, K40 w b4 r A n l wx → Below w.heap.size w wx := fun A n l wx h => h.bel
  have hKb : ∀ A n l wx w', K40 w b4 r A n l wx → Below wx.heap.size wx w' → K40 w b4 r A n l w' := fun _ _ _ _ _ h hb => h.below hb
  generalize K40 w b4 r = KK at *
  generalize wholeErr r = WE at *
  generalize passE r = PE at *
  generalize passD r = PD at *
  generalize passL r.course (r.metres * r.legs) = PL at *
  obtain ⟨KS, hKSe⟩ : ∃ KS : Nat → List Int, ∀ k', knownSplits zs k' r = KS k' := ⟨fun k' => knownSplits zs k' r, fun _ => rfl⟩
  simp only [hKSe] at hkw hKs hKl
  clear hKSe
  obtain ⟨key, metres, stroke, course, legs, sex, young, old⟩ := r
  dsimp only [Race.val, Race.cells] at *
  have hglt := s2.lt
  go_wp2_with fail
  have s2d := s2.drew
  have hb2d : (w1.alloc (.cells #[.string key, .int .i64 metres, .int .i64 stroke, .int .i64 course, .int .i64 legs, .int .i64 sex, .int .i64 young, .int .i64 old] 27)).drew.heap[b4]? = _ := hb2
  have hB2d := below_drewN hB2 1
  have z0 := (blk_facts hb2d).1 0
  have z1 := (blk_facts hb2d).1 1
  have z2 := (blk_facts hb2d).1 2
  have z3 := (blk_facts hb2d).1 3
  have z4 := (blk_facts hb2d).1 4
  have z5 := (blk_facts hb2d).1 5
  have z6 := (blk_facts hb2d).1 6
  have z7 := (blk_facts hb2d).1 7
  go_region_held3 (fun w' => w'.cell? ⟨b4, 0, none⟩ = some (.string key) ∧ w'.cell? ⟨b4, 1, none⟩ = some (.int .i64 metres) ∧ w'.cell? ⟨b4, 2, none⟩ = some (.int .i64 stroke) ∧ w'.cell? ⟨b4, 3, none⟩ = some (.int .i64 course) ∧ w'.cell? ⟨b4, 4, none⟩ = some (.int .i64 legs) ∧ w'.cell? ⟨b4, 5, none⟩ = some (.int .i64 sex) ∧ w'.cell? ⟨b4, 6, none⟩ = some (.int .i64 young) ∧ w'.cell? ⟨b4, 7, none⟩ = some (.int .i64 old)) (first | go_keep | with_reducible exact ⟨z0, z1, z2, z3, z4, z5, z6, z7⟩ | with_reducible exact ⟨y0, y1, y2, y3, y4, y5, y6, y7⟩ | with_reducible exact ⟨p0, p1, p2, p3, p4, p5, p6, p7⟩)
    (first
      | (go_at_call 76; with_reducible refine (hKs.out (0 + 9) _ s2d (by omega)).mono ?_; rintro e w5 ⟨A1, n1, c1, rfl, ho1, s5, g5⟩; have hb5 := blk_stream hb2d s2d g5 (by decide); have y0 := (blk_facts hb5).1 0; have y1 := (blk_facts hb5).1 1; have y2 := (blk_facts hb5).1 2; have y3 := (blk_facts hb5).1 3; have y4 := (blk_facts hb5).1 4; have y5 := (blk_facts hb5).1 5; have y6 := (blk_facts hb5).1 6; have y7 := (blk_facts hb5).1 7)
      | (go_at_call 76; with_reducible refine (hKs.out (0 + 9 + 2 * M) _ s5 (by omega)).mono ?_; rintro e w6 ⟨A2, n2, c2, rfl, ho2, s6, g6⟩; have hb6 := blk_stream hb5 s5 g6 (by decide); have p0 := (blk_facts hb6).1 0; have p1 := (blk_facts hb6).1 1; have p2 := (blk_facts hb6).1 2; have p3 := (blk_facts hb6).1 3; have p4 := (blk_facts hb6).1 4; have p5 := (blk_facts hb6).1 5; have p6 := (blk_facts hb6).1 6; have p7 := (blk_facts hb6).1 7))
  have h91 : n1 = M := by have := ho1.1; rw [ints_len, hKl.out] at this; omega
  have h92 : n2 = M := by have := ho2.1; rw [ints_len, hKl.out] at this; omega
  subst h91
  obtain rfl : n1 = n2 := h92.symm
  have ri1 := (R1.of_own ho1 (by omega)).keep (T := 25) (by decide) (s5.keep g6)
  have ri2 := R1.of_own ho2 (by omega)
  have hB5 := hB2d.trans (grown_below g5 (Nat.le_refl _) hB2d.size)
  have hB6 := hB5.trans (grown_below g6 (Nat.le_refl _) hB5.size)
  have hx6 := heap_alloc_new w6 (.cells #[.string ⟨#[115, 97]⟩, .slice A1 n1 c1, .string ⟨#[115, 98]⟩, .slice A2 n1 c2] 34)
  have K := hKm.out (some ⟨w6.heap.size, 0, none⟩) 2 (twoL A1 A2 n1 c1 n1 c2 (KS (0 + 9)) (KS (0 + 9 + 2 * n1))) _ (blk_alloc hb6 (.cells #[.string ⟨#[115, 97]⟩, .slice A1 n1 c1, .string ⟨#[115, 98]⟩, .slice A2 n1 c2] 34)) (two_row hx6 (ri1.alloc _) (ri2.alloc _)) (hB6.alloc hB6.size _)
  obtain ⟨t1, t2, t3, t4⟩ := hTp.out A1 A2 n1 c1 n1 c2 (KS (0 + 9)) (KS (0 + 9 + 2 * n1)) (hkw.out _) (hkw.out _)
  obtain ⟨hInc, hf0, hf1⟩ := hTi.out (KS (0 + 9)) (KS (0 + 9 + 2 * n1)) (hkw.out _) (hkw.out _)
  have hInc' := Lib.hid hInc
  have hP1 := Lib.hid (fun W h => hPa.out (some ⟨w6.heap.size, 0, none⟩) 2 2 (twoL A1 A2 n1 c1 n1 c2 (KS (0 + 9)) (KS (0 + 9 + 2 * n1))) sa sb W h)
  have hP2 := Lib.hid (fun W h => hPa.out (some ⟨w6.heap.size, 0, none⟩) 2 2 (twoL A1 A2 n1 c1 n1 c2 (KS (0 + 9)) (KS (0 + 9 + 2 * n1))) sb sa W h)
  rw [t1, t3] at hP1
  rw [t2, t4] at hP2
  have hln1 := Lib.hid (hKl.out (0 + 9))
  have hln2 := Lib.hid (hKl.out (0 + 9 + 2 * n1))
  have hfin : Hid (finP (KS (0 + 9)) (KS (0 + 9 + 2 * n1)) = min ((KS (0 + 9)).getD ((KS (0 + 9)).length - 1) 0) ((KS (0 + 9 + 2 * n1)).getD ((KS (0 + 9 + 2 * n1)).length - 1) 0)) := Lib.hid rfl
  generalize finP (KS (0 + 9)) (KS (0 + 9 + 2 * n1)) = fin at *
  generalize PL (KS (0 + 9)) (KS (0 + 9 + 2 * n1)) fin = P at *
  generalize KS (0 + 9) = la at *
  generalize KS (0 + 9 + 2 * n1) = lb at *
  have hL2 : Hid (twoL A1 A2 n1 c1 n1 c2 la lb = [⟨sa, A1, n1, c1, la⟩, ⟨sb, A2, n1, c2, lb⟩]) := Lib.hid rfl
  generalize twoL A1 A2 n1 c1 n1 c2 la lb = l at *
  have kR := fun wx => hKr (some ⟨w6.heap.size, 0, none⟩) 2 l wx
  have kF := fun wx => hKF (some ⟨w6.heap.size, 0, none⟩) 2 l wx
  have kB := fun wx => hKB (some ⟨w6.heap.size, 0, none⟩) 2 l wx
  have kb := fun wx w' => hKb (some ⟨w6.heap.size, 0, none⟩) 2 l wx w'
  generalize KK (some ⟨w6.heap.size, 0, none⟩) 2 l = KK2 at *
  clear hKr hKF hKB hKb hKm hTp hTi hPa hkw hKs hKl t1 t2 t3 t4 hInc ho1 ho2 ri1 ri2 hB5 hB6 hx6 hb6 hb5 hb2d hb2 hB2 hB2d s2 s2d s5 s6 g5 g6 z0 z1 z2 z3 z4 z5 z6 z7 y0 y1 y2 y3 y4 y5 y6 y7 p0 p1 p2 p3 p4 p5 p6 p7
  have zc := (blk_facts (kR _ K)).1
  go_wp2_with fail
  refine (hP1.out _ (kF _ K)).mono ?_; rintro e w7 ⟨A9, n9, c9, rfl, hF1, B7⟩
  replace K := kb _ _ K B7
  clear zc B7 hP1
  have zc := (blk_facts (kR _ K)).1
  go_wp2_with fail
  refine (hP2.out _ (kF _ K)).mono ?_; rintro e w8 ⟨A10, n10, c10, rfl, hF2, B8⟩
  replace K := kb _ _ K B8
  replace hF1 := hF1.below B8
  clear zc B8 hP2
  have hEq := Lib.hid (equalFr_one A9 A10 n9 c9 n10 c10 P w8 hF1 hF2)
  go_wp2_with fail
  refine hEq.out.mono ?_; rintro e w9 ⟨rfl, B9⟩
  replace K := kb _ _ K B9
  replace hF1 := hF1.below B9
  clear B9 hEq hF2
  obtain ⟨b0, o0, x0, hA0, _, hx0, _, cx, rx⟩ := (kF _ K).at2 (k := 0) (by omega)
  injection hA0 with hA0
  injection hA0 with q1 q2
  subst q2
  rw [hL2.out] at hx0
  have hx0' : (⟨sa, A1, n1, c1, la⟩ : Sw) = x0 := by injection hx0
  subst hx0'
  obtain ⟨b0', o0', y0, hA0', _, hy0, _, cy, ry⟩ := (kF _ K).at2 (k := 1) (by omega)
  injection hA0' with hA0'
  injection hA0' with q3 q4
  subst q4
  rw [hL2.out] at hy0
  have hy0' : (⟨sb, A2, n1, c2, lb⟩ : Sw) = y0 := by injection hy0
  subst hy0'
  dsimp only at cx cy rx ry
  rw [← q1] at cx
  rw [← q3] at cy
  have cx1 : w9.cell? ⟨w6.heap.size, 1, none⟩ = some (.slice A1 n1 c1) := by simpa using cx
  have cy1 : w9.cell? ⟨w6.heap.size, 3, none⟩ = some (.slice A2 n1 c2) := by simpa using cy
  obtain ⟨bX, oX, tA, hXA, lX, htX, cX⟩ := rx.at_ (k := n1 - 1) (by omega)
  obtain ⟨bY, oY, tB, hYA, lY, htY, cY⟩ := ry.at_ (k := n1 - 1) (by omega)
  have hfm : fin = min tA tB := by rw [hfin.out, hln1.out, hln2.out, getD_of htX, getD_of htY]
  subst hXA hYA
  have e1 : IntKind.i64.wrap ((n1 : Int) - 1) = (n1 : Int) - 1 := IntWalk.i64_in _ (by omega)
  have e2 : 0 ≤ (n1 : Int) - 1 := by omega
  have e3 : ((n1 : Int) - 1).toNat = n1 - 1 := by omega
  have e4 : (n1 : Int) - 1 < n1 := by omega
  have e5 : (1 : Int) ≤ (n1 : Int) := by omega
  have kB9 := kB _ K
  clear hfin hln1 hln2 hL2 cx cy rx ry htX htY q1 q3 hx0 hy0 kR kF kB kb K h92
  subst hfm
  generalize w6.heap.size = b6 at *
  go_wp2
  go_quiet (fail)
  clear cx1 cy1 cX cY e1 e2 e3 e4 e5
  have hFq : RFr (w9.drewN nq) A9 n9 P := hF1
  have kBq := below_drewN kB9 nq
  clear hF1 kB9
  generalize w9.drewN nq = wq at *
  go_wp2
  have hq1 := heap_alloc_new wq (.cells #[.int .i64 0, .int .i64 1] 86)
  have hB1 := below_new wq (.cells #[.int .i64 0, .int .i64 1] 86)
  generalize wq.alloc (.cells #[.int .i64 0, .int .i64 1] 86) = wr0 at *
  have hPl := Lib.hid hFq.len
  have hPb := hFq.bd
  go_loopw [80] (fun i wr => ∃ (k : Nat) (e1 e2 : Int), k ≤ n9 ∧ i = .int .i64 k ∧ 0 ≤ e1 ∧ e1 ≤ 129600000000 ∧ 0 < e2 ∧ e2 ≤ 360000 ∧ wr.heap[wq.heap.size]? = some (.cells #[.int .i64 e1, .int .i64 e2] 86 (0, 0)) ∧ Below wq.heap.size wq wr ∧ Hid (incP (min tA tB) (e1, e2) (P.drop k))) (fun i _ => n9 - (intOf i).toNat)
  case atStart => exact ⟨0, 0, 1, Nat.zero_le _, rfl, by omega, by omega, by omega, by omega, hq1, hB1, Lib.hid hInc'.out⟩
  case round =>
    clear hq1 hB1 hInc'
    obtain ⟨k, e1, e2, hk, rfl, h10, h11, h20, h21, hq, hB, hI⟩ := hrel
    by_cases hlt : k < n9
    · obtain ⟨bP, oP, p, hAP, lP, hp, cp0, cp1⟩ := RFr_atN (hFq.below hB) hlt
      subst hAP
      obtain ⟨⟨i1, i2, i3, i4, i5⟩, hI2⟩ := incP_at hp hI.out
      obtain ⟨x1, x2⟩ := p
      dsimp only at *
      have hI3 := Lib.hid hI2
      clear hI hI2 hp
      have m0 := mul_bd hf0 hf1 (Int.le_of_lt i1) i3
      have m1 := mul_bd i2 (show x1 ≤ 129600000000 by omega) (Int.le_of_lt h20) h21
      have m2 := mul_bd h10 h11 (Int.le_of_lt i1) i3
      have w1 : IntKind.i64.wrap (x1 * e2) = x1 * e2 := IntWalk.i64_in _ (by omega)
      have w2 : IntKind.i64.wrap (e1 * x2) = e1 * x2 := IntWalk.i64_in _ (by omega)
      have w3 : IntKind.i64.wrap (min tA tB * x2) = min tA tB * x2 := IntWalk.i64_in _ (by omega)
      have i6 : ¬ x1 * e2 ≤ e1 * x2 := by omega
      have i7 : ¬ min tA tB * x2 ≤ x1 := by omega
      have i8 : x1 ≤ 129600000000 := by omega
      have hq6 := blk_alloc hq (.cells #[.int .i64 x1, .int .i64 x2] 86)
      have hn6 := heap_alloc_new wr (.cells #[.int .i64 x1, .int .i64 x2] 86)
      have hB6 := hB.alloc hB.size (.cells #[.int .i64 x1, .int .i64 x2] 86)
      have lq6 := lt_of_heap hq
      have hne : wq.heap.size ≠ wr.heap.size := by omega
      have hne2 : wr.heap.size ≠ wq.heap.size := by omega
      obtain ⟨zq, yq⟩ := blk_facts hq6
      have zn := (blk_facts hn6).1
      have hq9 := Lib.hid (blk_set (blk_set hq6 0 (.int .i64 x1)) 1 (.int .i64 x2))
      have hB9 := Lib.hid ((hB6.setCell (p := ⟨wq.heap.size, 0, none⟩) (Nat.le_refl _) (.int .i64 x1)).setCell (p := ⟨wq.heap.size, 1, none⟩) (Nat.le_refl _) (.int .i64 x2))
      clear hq hq6 hn6 hB hB6 hFq i4 i5 m0 m1 m2
      go_upto_region 13 with (fail)
      generalize wr.alloc (.cells #[.int .i64 x1, .int .i64 x2] 86) = w6' at *
      generalize wr.heap.size = b7 at *
      go_wp2
      go_roundw
      case rel => exact ⟨k + 1, x1, x2, by omega, by go_num, by omega, by omega, by omega, by omega, by simpa using hq9.out, hB9.out, hI3⟩
      case measure => simp [intOf]; omega
    · have hBf := below_next kBq hB
      clear hq hI hFq
      go_wp2_with fail
      refine (ready_c _).mono ?_; rintro e w8 ⟨rfl, B8⟩
      have hB8 := below_next hBf B8
      go_wp2
      go_ret
      exact ⟨rfl, hB8⟩
end Go.Proofs.YtlddeeagnlgciaaGreatDoor
