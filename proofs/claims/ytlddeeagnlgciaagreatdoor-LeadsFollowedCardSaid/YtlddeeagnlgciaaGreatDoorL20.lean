/- LeadsFollowed: Passes and Leads answer as the reference says: the walk. -/
import Derived.Test.YtlddeeagnlgciaaGreatDoorPassY
import Derived.Test.YtlddeeagnlgciaaGreatDoorPassO
import Derived.Test.YtlddeeagnlgciaaGreatDoorLeadE
import Derived.Test.YtlddeeagnlgciaaGreatDoorFielded
import Derived.Test.YtlddeeagnlgciaaGreatDoorL02A
import Derived.Test.YtlddeeagnlgciaaGreatDoorDraws
import Derived.Deep.RegionHeld3
import Derived.Deep.DeepCutAuto
namespace Go.Proofs.YtlddeeagnlgciaaGreatDoor
open Go.RowKit
set_option linter.unusedVariables false

def K20 (w : World) (b : Nat) (r : Race) (A : Option Addr) (n : Nat) (l : List Sw) (wx : World) : Prop := wx.heap[b]? = some (.cells r.cells 27 (0, 0)) ∧ RSw wx A n l ∧ Below w.heap.size w wx
theorem K20.below {w : World} {b : Nat} {r : Race} {A : Option Addr} {n : Nat} {l : List Sw} {wx w' : World} (h : K20 w b r A n l wx) (hb : Below wx.heap.size wx w') : K20 w b r A n l w' := ⟨blk_below h.1 hb, h.2.1.below hb, below_next h.2.2 hb⟩
theorem K20.stream {w : World} {b : Nat} {r : Race} {A : Option Addr} {n : Nat} {l : List Sw} {wx w' : World} {zs : List Int} {k : Nat} (h : K20 w b r A n l wx) (hs : St wx w.heap.size zs k) (hg : wx.grownBy w' (some w.heap.size)) : K20 w b r A n l w' :=
  ⟨(hs.keep hg) b r.cells _ (0, 0) (by decide) h.1, h.2.1.stream hs hg, h.2.2.trans (grown_below hg (Nat.le_refl _) h.2.2.size)⟩
theorem equalFr_same (A1 A2 : Option Addr) (n c m d : Nat) (l : List (Int × Int)) (w : World) (h1 : RFr w A1 n l) (h2 : RFr w A2 m l) :
    Calls Tryz.prog 42 #[.slice A1 n c, .slice A2 m d] w fun e w' => e = .returned (.bool true) ∧ Below w.heap.size w w' := by
  refine (equalFr_c A1 A2 n c m d l l w h1 h2).mono ?_
  rintro e w' ⟨rfl, q, rfl⟩
  exact ⟨by simp, below_drewN (Below.refl _ _) q⟩
def whenErr (b : Bool) (e : Int) : Int := if b then e else 0
theorem when_c (b : Bool) (e : Int) (w : World) : Calls Tryz.prog 40 #[.bool b, .int .i64 e] w fun e' w' => e' = .returned (.int .i64 (whenErr b e)) ∧ w = w' := by
  cases b
  · go_enter Tryz.func40, Tryz.ntmps40
    go_wp2
    go_ret
    exact ⟨rfl, rfl⟩
  · go_enter Tryz.func40, Tryz.ntmps40
    go_wp2
    go_ret
    exact ⟨rfl, rfl⟩
/-- a swimmer's splits, as a slice value: nil if there is no such swimmer; of a right field not nil if there is -/
theorem spV_shape {r : Race} {l : List Sw} {w0 : ByteArray} {w : World} {A : Option Addr} {n : Nat} (h : RSw w A n l) : ∃ a m c, spV (spOf w0 l) = .slice a m c ∧ (fieldErr r l = 0 → a.isNone = (spOf w0 l).isNone) := by
  cases hs : spOf w0 l with
  | none => exact ⟨none, 0, 0, rfl, fun _ => rfl⟩
  | some x =>
    refine ⟨x.A, x.n, x.c, rfl, fun h0 => ?_⟩
    have hx : x ∈ l := List.mem_of_find?_eq_some hs
    have h1 := h.2 x hx
    have h2 := splits_bd (wholeErr_ok ((fieldErr_ok h0).2.2 x hx)).1
    rw [h1.len] at h2
    obtain ⟨b, o, y, hA, _⟩ := h1.at_ (k := 0) (by omega)
    rw [hA]; rfl
theorem str_eqB (a b : ByteArray) : (a.toList == b.toList) = decide (a = b) := by
  by_cases h : a = b
  · subst h; simp
  · rw [decide_eq_false h]; exact str_neWh h
def passXY (r : Race) (x y : Sw) : List (Int × Int) := passL r.course (r.metres * r.legs) x.sp y.sp (finP x.sp y.sp)
theorem pass_some {r : Race} {l : List Sw} {wa wb : ByteArray} (h : passE r l wa wb = 0) : ∃ x y, spOf wa l = some x ∧ spOf wb l = some y ∧ x ∈ l ∧ y ∈ l ∧ fieldErr r l = 0 ∧ passD r l wa wb = passXY r x y := by
  unfold passE at h
  by_cases h0 : fieldErr r l = 0
  · rw [if_pos h0] at h
    cases ha : spOf wa l with
    | none => rw [ha] at h; simp at h
    | some x =>
      cases hb : spOf wb l with
      | none => rw [hb] at h; simp at h
      | some y =>
        rw [ha, hb] at h
        by_cases hab : wa = wb
        · simp [hab] at h
        · exact ⟨x, y, rfl, rfl, List.mem_of_find?_eq_some ha, List.mem_of_find?_eq_some hb, h0, (passE_ok h0 ha hb hab).2⟩
  · rw [if_neg h0] at h; exact absurd h h0
theorem pass_none {r : Race} {l : List Sw} {wa wb : ByteArray} (h : passE r l wa wb ≠ 0) : passD r l wa wb = [] := by
  by_cases h0 : fieldErr r l = 0
  · cases ha : spOf wa l with
    | none => exact (passE_a h0 ha).2
    | some x =>
      cases hb : spOf wb l with
      | none => exact (passE_b h0 hb).2
      | some y =>
        by_cases hab : wa = wb
        · subst hab; exact (passE_same h0 ha).2
        · exact absurd (passE_ok h0 ha hb hab).1 h
  · exact (passE_err wa wb h0).2
theorem passesOfS_c {r : Race} {A : Option Addr} {n : Nat} {l : List Sw} {x y : Sw} (hx : x ∈ l) (hy : y ∈ l) (h0 : fieldErr r l = 0) (W : World) (g : RSw W A n l) :
    Calls Tryz.prog 41 #[r.val, .slice x.A x.n x.c, .slice y.A y.n y.c] W fun e w' => ∃ A' n' c', e = .returned (.slice A' n' c') ∧ RFr w' A' n' (passXY r x y) ∧ Below W.heap.size W w' := by
  have hx0 := (fieldErr_ok h0).2.2 x hx
  have hy0 := (fieldErr_ok h0).2.2 y hy
  have bx := splits_bd (wholeErr_ok hx0).1
  have by_ := splits_bd (wholeErr_ok hy0).1
  have lx := (g.2 x hx).len
  have ly := (g.2 y hy).len
  exact passesOf_c r x.A y.A x.n x.c y.n y.c x.sp y.sp (finP x.sp y.sp) W (g.2 x hx) (g.2 y hy) hx0 hy0 (by omega) (by omega) (by omega) (by omega) (by unfold finP; rw [lx, ly]) (by unfold finP; exact two_of hx0 hy0)
theorem someX_c (g : Nat) (zs : List Int) (k : Nat) (A : Option Addr) (n c : Nat) (l : List ByteArray) (w : World) (h : St w g zs k) (hk : k ≤ 1099511627776) (hr : RS 9 w A n l) (hn : 1 ≤ n) :
    Calls Tryz.prog 36 #[.pointer (some ⟨g, 0, none⟩), .slice A n c] w fun e w' => ∃ v : ByteArray, e = .returned (.string v) ∧ St w' g zs (k + 1) ∧ w.grownBy w' (some g) :=
  (some_c g zs k A n c l w h hk hr hn).mono fun e w' ⟨he, hs, hg⟩ => ⟨_, he, hs, hg⟩
theorem pass_way {r : Race} {l : List Sw} {wa wb : ByteArray} {p q d : Bool} (hd : d = decide (wa = wb)) (hp : fieldErr r l = 0 → p = (spOf wa l).isNone) (hq : fieldErr r l = 0 → q = (spOf wb l).isNone) : orV [fieldErr r l, noneErr p, noneErr q, whenErr d 6] = passE r l wa wb := by
  subst hd
  unfold passE
  by_cases h : fieldErr r l = 0
  · rw [if_pos h, h, hp h, hq h]
    cases (spOf wa l).isNone <;> cases (spOf wb l).isNone <;> by_cases he : wa = wb <;> simp [orV, noneErr, whenErr, he]
  · rw [if_neg h]; simp [orV, h]
set_option maxHeartbeats 6400000 in
set_option maxRecDepth 100000 in
theorem leadsFollowed_walk (a0 : Option Addr) (len0 cap0 : Nat) (z0 : List Int) (w : World) (w0 : IsRow .i64 w a0 len0 cap0 z0) :
    Calls Tryz.prog 5 #[.slice a0 len0 cap0] w fun e w' => e = .returned (.bool true) ∧ Below w.heap.size w w' := by
  have hs := law_start w0
  clear w0
  generalize z0.take len0 = zs at *
  go_enter Tryz.func5, Tryz.ntmps5
  go_wp2_with fail
  have hs' : St (w.alloc (.cells #[.slice a0 len0 cap0, .int .i64 0] 25)) w.heap.size zs 0 := hs
  refine (fielded_c _ zs 0 _ hs' (by omega)).mono ?_; rintro e w1 ⟨r, A, n, c, l, k1, rfl, hF, hn4, s1, hk1, g1⟩
  have hB : Below w.heap.size w w1 := (below_new w _).trans (grown_below g1 (Nat.le_refl _) (by simp))
  clear hs hs' g1
  have K : K20 w w1.heap.size r A n l (w1.alloc (.cells r.cells 27)) := ⟨heap_alloc_new w1 _, hF.alloc _, hB.alloc hB.size _⟩
  have s2 := s1.alloc (.cells r.cells 27)
  generalize hb4 : w1.heap.size = b4 at *
  have hPa := Lib.hid (fun wa wb W h => Passes_c r A n c l wa wb W h)
  have hSo := Lib.hid (fun w0 W h => splitsOf_c A n c l w0 W h)
  have hSh := Lib.hid (fun w0 => spV_shape (r := r) (l := l) (w0 := w0) hF)
  have hPW := Lib.hid (fun wa wb p q h1 h2 => pass_way (r := r) (l := l) (wa := wa) (wb := wb) (p := p) (q := q) (str_eqB wa wb) h1 h2)
  have hPO := Lib.hid (fun wa wb (h : passE r l wa wb = 0) => pass_some h)
  have hPf := Lib.hid (fun (x y : Sw) (hx : x ∈ l) (hy : y ∈ l) (h0 : fieldErr r l = 0) W (g : RSw W A n l) => passesOfS_c (n := n) (A := A) hx hy h0 W g)
  have hPD := Lib.hid (fun wa wb (h : passE r l wa wb ≠ 0) => pass_none h)
  have hLo := Lib.hid (fun W h => lengthsOf_c r W h)
  have hFR := Lib.hid (fun (h : fieldErr r l = 0) => (fieldErr_ok h).1)
  have hLe := Lib.hid (fun W h => leadsA_c r A n c l W h)
  have hLf := Lib.hid (fun W h h0 => leadsOfA_c r A n c l W h h0)
  have hLd := Lib.hid (fun (h : fieldErr r l ≠ 0) => show ldsD r l = [] by unfold ldsD; rw [if_neg (by rintro ⟨h1, _⟩; exact h h1)])
  clear s1 hB hF
  have hK : ∀ wx, K20 w b4 r A n l wx → wx.heap[b4]? = some (.cells r.cells 27 (0, 0)) := fun wx h => h.1
  have hKF : ∀ wx, K20 w b4 r A n l wx → RSw wx A n l := fun wx h => h.2.1
  have hKB : ∀ wx, K20 w b4 r A n l wx → Below w.heap.size w wx := fun wx h => h.2.2
  have hKb : ∀ wx w', K20 w b4 r A n l wx → Below wx.heap.size wx w' → K20 w b4 r A n l w' := fun _ _ h hb => h.below hb
  have hKs2 : ∀ wx w' k, K20 w b4 r A n l wx → St wx w.heap.size zs k → wx.grownBy w' (some w.heap.size) → K20 w b4 r A n l w' := fun _ _ _ h hs hg => h.stream hs hg
  generalize K20 w b4 r A n l = KK at *
  generalize passXY r = PXY at *
  generalize passE r l = PE at *
  generalize passD r l = PD at *
  generalize raceErr r = RE at *
  generalize ldsD r l = LD at *
  generalize fieldErr r l = FE at *
  generalize lenV r = LV at *
  obtain ⟨key, metres, stroke, course, legs, sex, young, old⟩ := r
  dsimp only [Race.val, Race.cells] at *
  go_wp2_with fail
  refine (someX_c _ zs _ _ _ _ [⟨#[115, 97]⟩, ⟨#[115, 98]⟩, ⟨#[115, 99]⟩, ⟨#[115, 100]⟩, ⟨#[122, 122]⟩] _ (s2.alloc _) (by omega) (R1.litAt _ _ _ _ (by first | rfl | (simp; done) | (simp; exact hb4)) rfl (by simp)) (by decide)).mono ?_; rintro e w3 ⟨wa, rfl, s3, g3⟩
  replace K := hKs2 _ _ _ (hKb _ _ K (below_new _ (.cells #[.string ⟨#[115, 97]⟩, .string ⟨#[115, 98]⟩, .string ⟨#[115, 99]⟩, .string ⟨#[115, 100]⟩, .string ⟨#[122, 122]⟩] 9))) (s2.alloc _) g3
  clear s2 g3
  go_wp2_with fail
  refine (someX_c _ zs _ _ _ _ [⟨#[115, 97]⟩, ⟨#[115, 98]⟩, ⟨#[115, 99]⟩, ⟨#[115, 100]⟩] _ (s3.alloc _) (by omega) (R1.litAt _ _ _ _ (by first | rfl | (simp; done) | (simp; exact hb4)) rfl (by simp)) (by decide)).mono ?_; rintro e w4 ⟨wb, rfl, s4, g4⟩
  replace K := hKs2 _ _ _ (hKb _ _ K (below_new _ (.cells #[.string ⟨#[115, 97]⟩, .string ⟨#[115, 98]⟩, .string ⟨#[115, 99]⟩, .string ⟨#[115, 100]⟩] 9))) (s3.alloc _) g4
  clear s3 g4 s4 hKs2
  have zc := (blk_facts (hK _ K)).1
  go_wp2_with fail
  refine (hPa.out wa wb _ (hKF _ K)).mono ?_; rintro e w5 ⟨A9, n9, c9, rfl, hFr, B5⟩
  replace K := hKb _ _ K B5
  clear zc B5 hPa
  have q22 : ∀ (w : World) (a : Option Addr) (n c n' c' : Nat), (binOp .eql 22 (.slice a n c) (.slice none n' c')).run Tryz.prog w = .ok (.bool a.isNone) w := fun w a n c n' c' => Lib.run_eql_slice_nil w _ _ a n c n' c' Tryz.underlying22
  obtain ⟨xA, xn, xc, hva, hia⟩ := hSh.out wa
  obtain ⟨yA, yn, yc, hvb, hib⟩ := hSh.out wb
  have hia' := Lib.hid hia
  have hib' := Lib.hid hib
  have hsa := Lib.hid (fun W h => hSo.out wa W h)
  have hsb := Lib.hid (fun W h => hSo.out wb W h)
  rw [hva] at hsa
  rw [hvb] at hsb
  have hva' := Lib.hid hva
  have hvb' := Lib.hid hvb
  clear hia hib hva hvb hSo hSh
  go_wp2_with fail
  refine (hsa.out _ (hKF _ K)).mono ?_; rintro e w6 ⟨rfl, B6⟩
  replace K := hKb _ _ K B6
  replace hFr := hFr.below B6
  clear B6
  go_wp2_with fail
  refine (noneFault_c _ _).mono ?_; rintro e w' ⟨rfl, rfl⟩
  go_wp2_with fail
  refine (hsb.out _ (hKF _ K)).mono ?_; rintro e w7 ⟨rfl, B7⟩
  replace K := hKb _ _ K B7
  replace hFr := hFr.below B7
  clear B7
  go_wp2_with fail
  refine (noneFault_c _ _).mono ?_; rintro e w' ⟨rfl, rfl⟩
  go_wp2_with fail
  refine (when_c _ _ _).mono ?_; rintro e w' ⟨rfl, rfl⟩
  go_wp2_with fail
  refine (orE_c _ _ _ [FE, noneErr xA.isNone, noneErr yA.isNone, whenErr (wa.toList == wb.toList) 6] _ (R1.litAt _ _ _ _ (by first | rfl | simp) rfl (by simp))).mono ?_; rintro e w' ⟨rfl, rfl⟩
  rw [hPW.out wa wb _ _ hia'.out hib'.out]
  replace K := hKb _ _ K (below_new _ (.cells #[.int .i64 FE, .int .i64 (noneErr xA.isNone), .int .i64 (noneErr yA.isNone), .int .i64 (whenErr (wa.toList == wb.toList) 6)] 38))
  replace hFr := hFr.below (below_new _ (.cells #[.int .i64 FE, .int .i64 (noneErr xA.isNone), .int .i64 (noneErr yA.isNone), .int .i64 (whenErr (wa.toList == wb.toList) 6)] 38))
  have hPO' := Lib.hid (hPO.out wa wb)
  have hPD' := Lib.hid (hPD.out wa wb)
  generalize hEP : PE wa wb = EP at *
  generalize PD wa wb = D at *
  clear hPW hia' hib' hEP hPO hPD q22
  go_upto_if 55 with (fail)
  go_cut [12] (fun s12 wx => ∃ A12 n12 c12, s12 = .slice A12 n12 c12 ∧ RFr wx A12 n12 D ∧ RFr wx A9 n9 D ∧ KK wx)
  case first =>
    by_cases h0 : EP = 0
    · obtain ⟨x, y, hx1, hy1, hxm, hym, hf0, hD⟩ := hPO'.out h0
      have hPf' := Lib.hid (fun W h => hPf.out x y hxm hym hf0 W h)
      have ex := hva'.out
      have ey := hvb'.out
      rw [hx1] at ex
      rw [hy1] at ey
      injection ex with x1 x2 x3
      injection ey with y1 y2 y3
      rw [x1, x2, x3, y1, y2, y3, ← hD] at hPf'
      subst h0
      have Kd : KK (w7.alloc (.cells #[.int .i64 FE, .int .i64 (noneErr xA.isNone), .int .i64 (noneErr yA.isNone), .int .i64 (whenErr (wa.toList == wb.toList) 6)] 38)).drew := hKb _ _ K (below_drewN (Below.refl _ _) 1)
      have hFd : RFr (w7.alloc (.cells #[.int .i64 FE, .int .i64 (noneErr xA.isNone), .int .i64 (noneErr yA.isNone), .int .i64 (whenErr (wa.toList == wb.toList) 6)] 38)).drew A9 n9 D := hFr
      have hBd : Below (w7.alloc (.cells #[.int .i64 FE, .int .i64 (noneErr xA.isNone), .int .i64 (noneErr yA.isNone), .int .i64 (whenErr (wa.toList == wb.toList) 6)] 38)).heap.size (w7.alloc (.cells #[.int .i64 FE, .int .i64 (noneErr xA.isNone), .int .i64 (noneErr yA.isNone), .int .i64 (whenErr (wa.toList == wb.toList) 6)] 38)) (w7.alloc (.cells #[.int .i64 FE, .int .i64 (noneErr xA.isNone), .int .i64 (noneErr yA.isNone), .int .i64 (whenErr (wa.toList == wb.toList) 6)] 38)).drew := below_drewN (Below.refl _ _) 1
      have z0 := (blk_facts (hK _ Kd)).1 0
      have z1 := (blk_facts (hK _ Kd)).1 1
      have z2 := (blk_facts (hK _ Kd)).1 2
      have z3 := (blk_facts (hK _ Kd)).1 3
      have z4 := (blk_facts (hK _ Kd)).1 4
      have z5 := (blk_facts (hK _ Kd)).1 5
      have z6 := (blk_facts (hK _ Kd)).1 6
      have z7 := (blk_facts (hK _ Kd)).1 7
      clear hx1 hy1 hxm hym hf0 hD x1 x2 x3 y1 y2 y3 hPf hPO' hPD' hLo hLe hLf hLd hva' hvb' K hFr
      go_wp2
      go_region_held3 (fun w' => w'.cell? ⟨b4, 0, none⟩ = some (.string key) ∧ w'.cell? ⟨b4, 1, none⟩ = some (.int .i64 metres) ∧ w'.cell? ⟨b4, 2, none⟩ = some (.int .i64 stroke) ∧ w'.cell? ⟨b4, 3, none⟩ = some (.int .i64 course) ∧ w'.cell? ⟨b4, 4, none⟩ = some (.int .i64 legs) ∧ w'.cell? ⟨b4, 5, none⟩ = some (.int .i64 sex) ∧ w'.cell? ⟨b4, 6, none⟩ = some (.int .i64 young) ∧ w'.cell? ⟨b4, 7, none⟩ = some (.int .i64 old)) (first | go_keep | with_reducible exact ⟨z0, z1, z2, z3, z4, z5, z6, z7⟩ | with_reducible exact ⟨y0, y1, y2, y3, y4, y5, y6, y7⟩ | with_reducible exact ⟨p0, p1, p2, p3, p4, p5, p6, p7⟩ | with_reducible exact ⟨q0, q1, q2, q3, q4, q5, q6, q7⟩)
        (first
          | (go_at_call 39; with_reducible refine (hsa.out _ (hKF _ Kd)).mono ?_; rintro e w9 ⟨rfl, B9⟩; have K9 := hKb _ _ Kd B9; have F9 := hFd.below B9; have y0 := (blk_facts (hK _ K9)).1 0; have y1 := (blk_facts (hK _ K9)).1 1; have y2 := (blk_facts (hK _ K9)).1 2; have y3 := (blk_facts (hK _ K9)).1 3; have y4 := (blk_facts (hK _ K9)).1 4; have y5 := (blk_facts (hK _ K9)).1 5; have y6 := (blk_facts (hK _ K9)).1 6; have y7 := (blk_facts (hK _ K9)).1 7)
          | (go_at_call 39; with_reducible refine (hsb.out _ (hKF _ K9)).mono ?_; rintro e w10 ⟨rfl, B10⟩; have K10 := hKb _ _ K9 B10; have F10 := F9.below B10; have p0 := (blk_facts (hK _ K10)).1 0; have p1 := (blk_facts (hK _ K10)).1 1; have p2 := (blk_facts (hK _ K10)).1 2; have p3 := (blk_facts (hK _ K10)).1 3; have p4 := (blk_facts (hK _ K10)).1 4; have p5 := (blk_facts (hK _ K10)).1 5; have p6 := (blk_facts (hK _ K10)).1 6; have p7 := (blk_facts (hK _ K10)).1 7)
          | (go_at_call 41; with_reducible refine (hPf'.out _ (hKF _ K10)).mono ?_; rintro e w11 ⟨A12, n12, c12, rfl, hFo, B11⟩; have K11 := hKb _ _ K10 B11; have F11 := F10.below B11; have q0 := (blk_facts (hK _ K11)).1 0; have q1 := (blk_facts (hK _ K11)).1 1; have q2 := (blk_facts (hK _ K11)).1 2; have q3 := (blk_facts (hK _ K11)).1 3; have q4 := (blk_facts (hK _ K11)).1 4; have q5 := (blk_facts (hK _ K11)).1 5; have q6 := (blk_facts (hK _ K11)).1 6; have q7 := (blk_facts (hK _ K11)).1 7))
      go_wp2
      go_meet
      case rel => exact ⟨A12, n12, c12, rfl, hFo, F11, K11⟩
    · have hD0 := Lib.hid (hPD'.out h0)
      have ht : (EP == 0) = false := beq_eq_false_iff_ne.2 h0
      clear h0
      go_wp2
      go_meet
      case rel => exact ⟨none, 0, 0, rfl, by rw [hD0.out]; exact RN.nil_ _ _ _ _ _, hFr, K⟩
  case rest =>
    clear hFr K hPO' hPD' hsa hsb hPf hva' hvb'
    rename World => wx
    obtain ⟨A12, n12, c12, rfl, hFo, hFr, K⟩ := hcut
    have hEq := Lib.hid (equalFr_same A9 A12 n9 c9 n12 c12 D wx hFr hFo)
    go_wp2_with fail
    refine hEq.out.mono ?_; rintro e w12 ⟨rfl, B12⟩
    replace K := hKb _ _ K B12
    clear hEq hFr hFo B12
    have zc := (blk_facts (hK _ K)).1
    have hrc := Lib.hid (fun W => raced_c W)
    by_cases hn2 : 2 < n
    · clear hLo hLe hLf hLd
      go_wp2_with fail
      refine (hrc.out _).mono ?_; rintro e w13 ⟨rfl, B13⟩
      have hB13 := below_next (hKB _ K) B13
      go_wp2
      go_ret
      exact ⟨rfl, hB13⟩
    · have hn2' : ¬ (2 : Int) < (n : Int) := by omega
      have hn2d : decide ((2 : Int) < (n : Int)) = false := decide_eq_false hn2'
      by_cases hfe : FE = 0
      · subst hfe
        have hRE := Lib.hid (hFR.out (by first | rfl | trivial))
        clear hLd
        go_wp2_with fail
        refine (hLo.out _ hRE.out).mono ?_; rintro e w13 ⟨rfl, B13⟩
        replace K := hKb _ _ K B13
        clear zc B13
        by_cases h8 : 8 < LV
        · clear hLe hLf
          go_wp2_with fail
          refine (hrc.out _).mono ?_; rintro e w14 ⟨rfl, B14⟩
          have hB14 := below_next (hKB _ K) B14
          go_wp2
          go_ret
          exact ⟨rfl, hB14⟩
        · clear hLo
          have zc := (blk_facts (hK _ K)).1
          go_wp2_with fail
          refine (hLe.out _ (hKF _ K)).mono ?_; rintro e w14 ⟨A14, n14, c14, P, rfl, hP, hPD9, B14⟩
          replace K := hKb _ _ K B14
          clear zc B14 hLe
          have zc := (blk_facts (hK _ K)).1
          have hPh := Lib.hid hP
          clear hP
          go_wp2_with fail
          refine (hLf.out _ (hKF _ K) (by first | rfl | trivial)).mono ?_; rintro e w15 ⟨A15, n15, c15, Q, rfl, hQ, hQD9, B15⟩
          replace K := hKb _ _ K B15
          have hP := hPh.out.below B15
          have hEd := Lib.hid (show decide (P.map Ph.dat = Q.map Ph.dat) = true by rw [hPD9, hQD9]; simp)
          have hE := Lib.hid (equalPh_c A14 A15 n14 c14 n15 c15 P Q w15 hP hQ)
          rw [hEd.out] at hE
          clear zc B15 hLf hPh hP hQ hPD9 hQD9 hEd
          go_wp2_with fail
          refine hE.out.mono ?_; rintro e w16 ⟨rfl, B16⟩
          replace K := hKb _ _ K B16
          clear hE B16
          go_wp2_with fail
          refine (hrc.out _).mono ?_; rintro e w17 ⟨rfl, B17⟩
          have hB17 := below_next (hKB _ K) B17
          go_wp2
          go_ret
          exact ⟨rfl, hB17⟩
      · have hfe' := Lib.hid hfe
        have ht0 : (FE == 0) = false := beq_eq_false_iff_ne.2 hfe
        clear hfe zc hLo hFR
        have zc := (blk_facts (hK _ K)).1
        go_wp2_with fail
        refine (hLe.out _ (hKF _ K)).mono ?_; rintro e w14 ⟨A14, n14, c14, P, rfl, hP, hPD9, B14⟩
        replace K := hKb _ _ K B14
        clear zc B14 hLe
        have hn14 : n14 = 0 := by
          have h8 := hP.len
          rw [hLd.out hfe'.out] at hPD9
          have h9 := congrArg List.length hPD9
          rw [List.length_map] at h9
          simpa [h8] using h9
        subst hn14
        clear hP hPD9 hLd hLf
        have ht : (FE != 0) = true := by simpa using hfe'.out
        go_wp2_with fail
        refine (hrc.out _).mono ?_; rintro e w17 ⟨rfl, B17⟩
        have hB17 := below_next (hKB _ K) B17
        go_wp2
        go_ret
        exact ⟨rfl, hB17⟩
end Go.Proofs.YtlddeeagnlgciaaGreatDoor
