/- FixesCountOnce: the plain law. -/
import Derived.Test.YtdbfcneeiiialaaGreatDoorFxM
import Derived.Test.YtdbfcneeiiialaaGreatDoorFixP
namespace Go.Proofs.YtdbfcneeiiialaaGreatDoor
open Go.Lib Go.Sort
set_option linter.unusedVariables false

theorem fx_comm0 {x y : Fx} (h : fxCf x y = 0) : fxCf y x = 0 := by
  obtain ⟨e1, e2, e3, e4, e5⟩ := fxKey_zero.1 h
  exact fxKey_zero.2 ⟨e1.symm, e2.symm, e3.symm, e4.symm, e5.symm⟩
theorem fx_tri {x y : Fx} (h : fxCf x y ≠ 0) (h2 : ltOf fxCf y x = false) : fxCf x y < 0 := by
  rw [fxLt_no] at h2
  rw [fxKey_neg]
  rw [Ne, fxKey_zero] at h
  have c1 : cmpB y.rc x.rc = 0 ↔ y.rc = x.rc := cmpB_zero
  have c2 : cmpB x.rc y.rc = 0 ↔ x.rc = y.rc := cmpB_zero
  have c3 : cmpB x.rc y.rc < 0 ↔ 0 < cmpB y.rc x.rc := cmpB_neg
  unfold fxL at *
  by_cases e : x.rc = y.rc
  · have d1 := c1.2 e.symm
    have d2 := c2.2 e
    refine .inr ⟨d2, ?_⟩
    have h3 : ¬ (x.ht = y.ht ∧ x.ln = y.ln ∧ x.le = y.le ∧ x.vr = y.vr) := fun h9 => h ⟨e, h9⟩
    have h4 : ¬ (y.ht < x.ht ∨ (y.ht = x.ht ∧ (y.ln < x.ln ∨ (y.ln = x.ln ∧ (y.le < x.le ∨ (y.le = x.le ∧ y.vr < x.vr)))))) := fun h9 => h2 (.inr ⟨d1, h9⟩)
    omega
  · refine .inl (c3.2 ?_)
    have d1 : cmpB y.rc x.rc ≠ 0 := fun h9 => e (c1.1 h9).symm
    have d2 : ¬ cmpB y.rc x.rc < 0 := fun h9 => h2 (.inl h9)
    omega
theorem fx_self (x : Fx) : ¬ fxCf x x < 0 := by
  have : fxCf x x = 0 := fxKey_zero.2 ⟨rfl, rfl, rfl, rfl, rfl⟩
  omega
theorem mgx_sub {a : List Fx} (hs : a.Pairwise fun x y => fxCf x y < 0) : ∀ {b : List Fx}, (∀ x ∈ b, x ∈ a) → mgx a b = some []
  | [], _ => rfl
  | x :: r, h => by
    have e := mgx_find hs (h x (List.mem_cons_self ..)) (fxKey_zero.2 ⟨rfl, rfl, rfl, rfl, rfl⟩ : fxCf x x = 0)
    simp only [mgx, e, if_pos]
    exact mgx_sub hs fun y hy => h y (List.mem_cons_of_mem _ hy)
theorem mgx_some {a : List Fx} : ∀ {b p : List Fx}, mgx a b = some p → p.Sublist b ∧ (∀ x ∈ p, ∀ y ∈ a, fxCf y x ≠ 0) ∧ (∀ x ∈ b, x ∈ p ∨ x ∈ a)
  | [], p, h => by simp [mgx] at h; subst h; exact ⟨List.Sublist.refl _, fun x hx => by (cases hx), fun x hx => by (cases hx)⟩
  | x :: r, p, h => by
    unfold mgx at h
    split at h
    · rename_i hn
      rw [List.find?_eq_none] at hn
      cases e : mgx a r with
      | none => rw [e] at h; simp at h
      | some q =>
        rw [e] at h
        simp at h; subst h
        obtain ⟨i1, i2, i3⟩ := mgx_some e
        refine ⟨i1.cons_cons x, fun z hz => ?_, fun z hz => ?_⟩
        · rcases List.mem_cons.1 hz with rfl | hz
          · intro y hy; simpa using hn y hy
          · exact i2 z hz
        · rcases List.mem_cons.1 hz with rfl | hz
          · exact .inl (List.mem_cons_self ..)
          · rcases i3 z hz with h9 | h9
            · exact .inl (List.mem_cons_of_mem _ h9)
            · exact .inr h9
    · rename_i y hf
      split at h
      · rename_i hy
        obtain ⟨i1, i2, i3⟩ := mgx_some h
        refine ⟨i1.cons x, i2, fun z hz => ?_⟩
        rcases List.mem_cons.1 hz with rfl | hz
        · exact .inr (hy ▸ List.mem_of_find?_eq_some hf)
        · exact i3 z hz
      · cases h
theorem mgx_none {a : List Fx} : ∀ {b : List Fx}, mgx a b = none → ∃ x ∈ b, ∃ y ∈ a, fxCf y x = 0 ∧ y ≠ x
  | [], h => by simp [mgx] at h
  | x :: r, h => by
    unfold mgx at h
    split at h
    · have e : mgx a r = none := by simpa using h
      obtain ⟨z, hz, y, hy, h1⟩ := mgx_none e
      exact ⟨z, List.mem_cons_of_mem _ hz, y, hy, h1⟩
    · rename_i y hf
      split at h
      · obtain ⟨z, hz, y, hy, h1⟩ := mgx_none h
        exact ⟨z, List.mem_cons_of_mem _ hz, y, hy, h1⟩
      · rename_i hne
        exact ⟨x, List.mem_cons_self .., y, List.mem_of_find?_eq_some hf, by simpa using List.find?_some hf, hne⟩
theorem mgx_some_ok {a b p : List Fx} (hs : a.Pairwise fun x y => fxCf x y < 0) (h : mgx a b = some p) {x y : Fx} (hx : x ∈ b) (hy : y ∈ a) (e : fxCf y x = 0) : y = x := by
  obtain ⟨_, h2, h3⟩ := mgx_some h
  rcases h3 x hx with h9 | h9
  · exact absurd e (h2 x h9 y hy)
  · exact fxKey_same hs hy h9 e
/-- two lists in order with the same members are one list -/
theorem fx_ext : ∀ {a b : List Fx}, (a.Pairwise fun x y => fxCf x y < 0) → (b.Pairwise fun x y => fxCf x y < 0) → (∀ x, x ∈ a ↔ x ∈ b) → a = b
  | [], [], _, _, _ => rfl
  | [], y :: b, _, _, h => absurd ((h y).2 (List.mem_cons_self ..)) (by simp)
  | x :: a, [], _, _, h => absurd ((h x).1 (List.mem_cons_self ..)) (by simp)
  | x :: a, y :: b, h1, h2, h => by
    rw [List.pairwise_cons] at h1 h2
    have e : x = y := by
      rcases List.mem_cons.1 ((h x).1 (List.mem_cons_self ..)) with e | hm
      · exact e
      · rcases List.mem_cons.1 ((h y).2 (List.mem_cons_self ..)) with e | hm2
        · exact e.symm
        · exact absurd (fx_trans (h1.1 y hm2) (h2.1 x hm)) (fx_self x)
    subst e
    refine congrArg (x :: ·) (fx_ext h1.2 h2.2 fun z => ⟨fun hz => ?_, fun hz => ?_⟩)
    · rcases List.mem_cons.1 ((h z).1 (List.mem_cons_of_mem _ hz)) with rfl | h9
      · exact absurd (h1.1 z hz) (fx_self z)
      · exact h9
    · rcases List.mem_cons.1 ((h z).2 (List.mem_cons_of_mem _ hz)) with rfl | h9
      · exact absurd (h2.1 z hz) (fx_self z)
      · exact h9
theorem mgx_out {a b p o : List Fx} (ha : a.Pairwise fun x y => fxCf x y < 0) (hb : b.Pairwise fun x y => fxCf x y < 0) (h : mgx a b = some p) (ho : FxSorted (a ++ p) o) : (o.Pairwise fun x y => fxCf x y < 0) ∧ ∀ x, x ∈ o ↔ x ∈ a ∨ x ∈ b := by
  obtain ⟨h1, h2, h3⟩ := mgx_some h
  have hd : (a ++ p).Pairwise fun x y => fxCf x y ≠ 0 := by
    rw [List.pairwise_append]
    refine ⟨ha.imp fun h9 => by omega, (hb.sublist h1).imp fun h9 => by omega, fun y hy x hx => h2 x hx y hy⟩
  have hd2 : o.Pairwise fun x y => fxCf x y ≠ 0 := (ho.1.pairwise_iff (fun h9 e => h9 (fx_comm0 e))).2 hd
  refine ⟨(hd2.and ho.2).imp fun h9 => fx_tri h9.1 h9.2, fun x => ?_⟩
  rw [ho.1.mem_iff, List.mem_append]
  constructor
  · rintro (h9 | h9)
    · exact .inl h9
    · exact .inr (h1.subset h9)
  · rintro (h9 | h9)
    · exact .inl h9
    · exact (h3 x h9).symm
theorem mg_self {a : List Fx} (h0 : fxErr a = 0) {E : Int} {o : List Fx} (h : MgxR a a E o) : E = 0 ∧ o = a := by
  obtain ⟨hl, _, hs⟩ := (fxErr_iff a).1 h0
  have e := mgx_sub hs (b := a) fun _ hx => hx
  rcases h with ⟨h1, _⟩ | ⟨_, h1, _⟩ | ⟨_, _, ⟨h1, _⟩ | ⟨p, h1, ⟨h2, _⟩ | ⟨_, h2, h3⟩⟩⟩
  · exact absurd h0 h1
  · exact absurd h0 h1
  · rw [e] at h1; cases h1
  · rw [e] at h1; cases h1; simp at h2; omega
  · rw [e] at h1; cases h1
    rw [List.append_nil] at h3
    exact ⟨h2, (fxSorted_uniq h3.1.symm hs h3.2).symm⟩
theorem mg_symm {a b : List Fx} (ha : fxErr a = 0) (hb : fxErr b = 0) (la : a.length ≤ 100) (lb : b.length ≤ 100) {E1 E2 : Int} {o1 o2 : List Fx} (h1 : MgxR a b E1 o1) (h2 : MgxR b a E2 o2) : E1 = E2 ∧ o1 = o2 := by
  obtain ⟨_, _, sa⟩ := (fxErr_iff a).1 ha
  obtain ⟨_, _, sb⟩ := (fxErr_iff b).1 hb
  rcases h1 with ⟨h, _⟩ | ⟨_, h, _⟩ | ⟨_, _, h1⟩
  · exact absurd ha h
  · exact absurd hb h
  rcases h2 with ⟨h, _⟩ | ⟨_, h, _⟩ | ⟨_, _, h2⟩
  · exact absurd hb h
  · exact absurd ha h
  rcases h1 with ⟨n1, rfl, rfl⟩ | ⟨p, n1, h1⟩
  · rcases h2 with ⟨n2, rfl, rfl⟩ | ⟨q, n2, h2⟩
    · exact ⟨rfl, rfl⟩
    · obtain ⟨x, hx, y, hy, e, hne⟩ := mgx_none n1
      exact absurd (mgx_some_ok sb n2 hy hx (fx_comm0 e)).symm hne
  · rcases h2 with ⟨n2, rfl, rfl⟩ | ⟨q, n2, h2⟩
    · obtain ⟨x, hx, y, hy, e, hne⟩ := mgx_none n2
      exact absurd (mgx_some_ok sa n1 hy hx (fx_comm0 e)).symm hne
    · have l1 := mgx_len n1
      have l2 := mgx_len n2
      rcases h1 with ⟨h9, _⟩ | ⟨_, rfl, s1⟩
      · rw [List.length_append] at h9; omega
      rcases h2 with ⟨h9, _⟩ | ⟨_, rfl, s2⟩
      · rw [List.length_append] at h9; omega
      obtain ⟨a1, a2⟩ := mgx_out sa sb n1 s1
      obtain ⟨b1, b2⟩ := mgx_out sb sa n2 s2
      exact ⟨rfl, fx_ext a1 b1 fun x => by rw [a2, b2]; exact Or.comm⟩
/-- the law's own sheet -/
def sht0 : Shd := ⟨1, [⟨2, 3000, false⟩], 6100, 1⟩
theorem putsV_len : ∀ (l : List Fx) (s : Shd), (putsV l s).laps.length = s.laps.length
  | [], _ => rfl
  | x :: r, s => by rw [putsV_cons, putsV_len r, putV_len]
theorem fixd_one {r : Race} (hr : raceErr r = 0) {f : List Fx} (hf : fxErr f = 0) {s : Shd} (h1 : s.lane = 1) : fixdErr r f 1 [s] = 0 := by
  unfold fixdErr
  rw [if_neg (not_not_intro hr), if_neg (not_not_intro hf), if_neg (by decide), if_neg (by simp)]
  simp [shtErr, h1]
theorem fixdL_two (r : Race) {f : List Fx} (hf : fxErr f = 0) (s : Shd) : fixdL r f 1 (fixdL r f 1 [s]) = fixdL r f 1 [s] := by
  obtain ⟨_, _, hs⟩ := (fxErr_iff f).1 hf
  unfold fixdL
  simp only [List.map_cons, List.map_nil, putsV_lane]
  rw [actF_idem hs]
end Go.Proofs.YtdbfcneeiiialaaGreatDoor
