/- LeadersAreFarthest: what phases and wheres are like. Plain. -/
import Derived.Test.YtdbfcneeiiialaaDoorLeadT
import Derived.Test.YtdbfcneeiiialaaDoorGapsX
namespace Go.Proofs.YtdbfcneeiiialaaDoor
open Go.RowKit
set_option linter.unusedVariables false

theorem frac_scale {k a b : Int} (hk : 0 < k) : fracN (k * a) (k * b) = fracN a b ∧ fracD (k * a) (k * b) = fracD a b := by
  have hg : (Int.gcd (k * a) (k * b) : Int) = k * (Int.gcd a b : Int) := by
    rw [Int.gcd_mul_left]
    push_cast
    rw [Int.natAbs_of_nonneg (by omega)]
  unfold fracN fracD
  rw [hg]
  exact ⟨Int.mul_ediv_mul_of_pos _ _ hk, Int.mul_ediv_mul_of_pos _ _ hk⟩
theorem frac_eq {a b c d : Int} (hb : 0 < b) (hd : 0 < d) : (fracN a b = fracN c d ∧ fracD a b = fracD c d) ↔ a * d = c * b := by
  constructor
  · rintro ⟨h1, h2⟩
    obtain ⟨_, e1, e2⟩ := frac_split (a := a) hb
    obtain ⟨_, e3, e4⟩ := frac_split (a := c) hd
    generalize (Int.gcd a b : Int) = g at *
    generalize (Int.gcd c d : Int) = g' at *
    rw [← h1] at e3
    rw [← h2] at e4
    generalize fracN a b = N at *
    generalize fracD a b = D at *
    subst e1 e2 e3 e4
    simp only [Int.mul_comm, Int.mul_left_comm]
  · intro h
    have h1 := frac_scale (a := a) (b := b) hd
    have h2 := frac_scale (a := c) (b := d) hb
    have e1 : d * a = b * c := by rw [Int.mul_comm d a, h, Int.mul_comm]
    have e2 : d * b = b * d := Int.mul_comm _ _
    rw [e1, e2] at h1
    exact ⟨h1.1.symm.trans h2.1, h1.2.symm.trans h2.2⟩
theorem phIs_at {r : Race} {l : List Sw} {N : Nat} {P : List Ph} (h : PhIs r l N P) {j : Nat} {y : Ph} (hy : P[j]? = some y) : ∃ u, (phL r l N)[j]? = some u ∧ y.f = u.1 ∧ y.t = u.2.1 ∧ y.who = ldN u.2.2 := by
  unfold PhIs phDs at h
  have h1 := congrArg (fun q => q[j]?) h
  simp only [List.getElem?_map] at h1
  rw [hy] at h1
  rcases hu : (phL r l N)[j]? with _ | u
  · rw [hu] at h1; cases h1
  · rw [hu] at h1
    injection h1 with h1
    unfold Ph.dat phD at h1
    injection h1 with h2 h3
    injection h3 with h3 h4
    exact ⟨u, rfl, h2, h3, h4⟩
theorem phIs_len {r : Race} {l : List Sw} {N : Nat} {P : List Ph} (h : PhIs r l N P) : P.length = (phL r l N).length := by
  have := congrArg List.length h
  simpa [phDs] using this
theorem ldT_ne {r : Race} {l : List Sw} (hl : l ≠ []) (t : Nat) : ldT r l t ≠ [] := by
  have hz : l.zipIdx ≠ [] := by intro e; have := congrArg List.length e; rw [List.length_zipIdx] at this; exact hl (List.eq_nil_of_length_eq_zero this)
  have key : ∀ (f : Sw × Nat → Int × Int) (q acc : List (Sw × Nat)) (b : Int × Int), acc ≠ [] → ldF f acc b q ≠ [] := by
    intro f q
    induction q with
    | nil => intro acc b h; exact h
    | cons x q ih =>
      intro acc b h
      rw [ldF]
      split
      · exact ih _ _ (by simp)
      · split
        · exact ih _ _ (by simp)
        · exact ih _ _ h
  unfold ldT ldL
  rcases hzz : l.zipIdx with _ | ⟨x, q⟩
  · exact absurd hzz hz
  · rw [ldF, if_pos (.inl rfl)]
    exact key _ _ _ _ (by simp)
theorem phases_ok {r : Race} {l : List Sw} {N : Nat} {P : List Ph} (hl : l ≠ []) (h0 : fieldErr r l = 0) (hN : 0 < N) (h : PhIs r l N P) :
    0 < P.length ∧ (∀ y, P[0]? = some y → y.f = 0) ∧ (∀ y, P[P.length - 1]? = some y → y.t = N) ∧
    (∀ (j : Nat) y, P[j]? = some y → 0 < y.who.length ∧ y.f < y.t ∧ 0 ≤ y.f ∧ y.t ≤ N ∧ ∀ t : Int, y.f ≤ t → t < y.t → y.who = ldN (ldL r t l)) ∧
    (∀ (j : Nat) y z, P[j]? = some y → P[j + 1]? = some z → y.t = z.f ∧ eqS y.who z.who = false) := by
  have hlen := phIs_len h
  have hok : PhOk (ldT r l) (phL r l N) N := by
    unfold phL
    classical
    exact phOk (ldT r l) N
  have hne : phL r l N ≠ [] := fun e => by have := hok.emp e; omega
  have hpos : 0 < (phL r l N).length := List.length_pos_iff.2 hne
  refine ⟨by omega, fun y hy => ?_, fun y hy => ?_, fun j y hy => ?_, fun j y z hy hz => ?_⟩
  · obtain ⟨u, hu, e1, e2, e3⟩ := phIs_at h hy
    obtain ⟨_, _, q3, _, _⟩ := hok.at_ _ _ hu
    rw [e1, q3 rfl]; rfl
  · obtain ⟨u, hu, e1, e2, e3⟩ := phIs_at h hy
    obtain ⟨_, _, _, _, q5⟩ := hok.at_ _ _ hu
    rw [e2, q5 (by omega)]
  · obtain ⟨u, hu, e1, e2, e3⟩ := phIs_at h hy
    obtain ⟨q1, q2, q3, q4, q5⟩ := hok.at_ _ _ hu
    have hw : u.2.2 = ldT r l u.1 := (q4 u.1 (Nat.le_refl _) q1).symm
    refine ⟨?_, by omega, by omega, by omega, fun t t0 t1 => ?_⟩
    · rw [e3, hw]
      unfold ldN
      rw [List.length_map]
      exact List.length_pos_iff.2 (ldT_ne hl _)
    · obtain ⟨T, rfl⟩ : ∃ T : Nat, t = T := ⟨t.toNat, by omega⟩
      rw [e3, ← q4 T (by omega) (by omega)]; rfl
  · obtain ⟨u, hu, e1, e2, e3⟩ := phIs_at h hy
    obtain ⟨v, hv, f1, f2, f3⟩ := phIs_at h hz
    obtain ⟨q1, q2⟩ := hok.nxt _ _ _ hu hv
    refine ⟨by rw [e2, f1, q1], decide_eq_false fun e => q2 ?_⟩
    obtain ⟨a1, _, _, a4, _⟩ := hok.at_ _ _ hu
    obtain ⟨b1, _, _, b4, _⟩ := hok.at_ _ _ hv
    rw [e3, f3, ← a4 u.1 (Nat.le_refl _) a1, ← b4 v.1 (Nat.le_refl _) b1] at e
    rw [← a4 u.1 (Nat.le_refl _) a1, ← b4 v.1 (Nat.le_refl _) b1]
    exact ldN_inj h0 e
/-- who is where: the first ones are who leads; of equals, the lesser name is first -/
theorem wheres_ok {r : Race} {l : List Sw} {t : Int} (h0 : fieldErr r l = 0) (t0 : 0 ≤ t) (t1 : t ≤ 360000) :
    (whL r t l).length = l.length ∧
    (∀ (q : Nat) z w0, (whL r t l)[q]? = some z → (whL r t l)[0]? = some w0 → (z.num = w0.num ∧ z.den = w0.den ↔ z.who ∈ ldN (ldL r t l))) ∧
    (∀ (q : Nat) y z, (whL r t l)[q]? = some y → (whL r t l)[q + 1]? = some z → z.num = y.num ∧ z.den = y.den → ¬ ltS z.who y.who) := by
  have hw := (fieldErr_ok h0).2.2
  have hok : ∀ x ∈ l.map (atWh r t), whOk x := fun x hx => by
    obtain ⟨y, hy, rfl⟩ := List.mem_map.1 hx
    exact atWh_ok (hw y hy) t0 t1
  have hup : ∀ (p k : Nat) (x y : Wh), k < p → (l.map (atWh r t))[p]? = some x → (l.map (atWh r t))[k]? = some y → ltS y.who x.who := fun p k x y hkp hx hy => by
    rw [List.getElem?_map] at hx hy
    obtain ⟨x', hx', rfl⟩ := Option.map_eq_some_iff.1 hx
    obtain ⟨y', hy', rfl⟩ := Option.map_eq_some_iff.1 hy
    exact field_rise h0 k p y' x' hkp hy' hx'
  obtain ⟨hp, hs⟩ := whSort_spec hok hup
  have hWL : whL r t l = whSort (l.map (atWh r t)) := rfl
  rw [← hWL] at hp hs
  have hmem : ∀ z ∈ whL r t l, ∃ x ∈ l, z = atWh r t x := fun z hz => by
    obtain ⟨x, hx, e⟩ := List.mem_map.1 (hp.subset hz)
    exact ⟨x, hx, e.symm⟩
  have hpos : ∀ x ∈ l, 0 < (atP r t x.sp).2 := fun x hx => (farP_bd (hw x hx) t0 t1).2.2.1
  have hfe : ∀ x ∈ l, ∀ y ∈ l, ((atWh r t x).num = (atWh r t y).num ∧ (atWh r t x).den = (atWh r t y).den) ↔ (atP r t x.sp).1 * (atP r t y.sp).2 = (atP r t y.sp).1 * (atP r t x.sp).2 := fun x hx y hy => frac_eq (hpos x hx) (hpos y hy)
  have hcmp : ∀ x ∈ l, ∀ y ∈ l, (atWh r t x).num * (atWh r t y).den ≤ (atWh r t y).num * (atWh r t x).den → far_le (atP r t x.sp) (atP r t y.sp) := fun x hx y hy h => by
    have e := frac_cmp (a := (atP r t y.sp).1) (b := (atP r t y.sp).2) (c := (atP r t x.sp).1) (d := (atP r t x.sp).2) (hpos y hy) (hpos x hx)
    unfold far_le
    rcases Int.lt_trichotomy ((atP r t x.sp).1 * (atP r t y.sp).2) ((atP r t y.sp).1 * (atP r t x.sp).2) with h1 | h1 | h1
    · omega
    · omega
    · have h2 := cmpI_one.2 h1
      rw [← e] at h2
      have h3 := cmpI_one.1 h2
      have h4 : (atWh r t x).num * (atWh r t y).den = fracN (atP r t x.sp).1 (atP r t x.sp).2 * fracD (atP r t y.sp).1 (atP r t y.sp).2 := rfl
      have h5 : (atWh r t y).num * (atWh r t x).den = fracN (atP r t y.sp).1 (atP r t y.sp).2 * fracD (atP r t x.sp).1 (atP r t x.sp).2 := rfl
      omega
  refine ⟨by rw [hp.length_eq, List.length_map], fun q z w0 hz hw0 => ?_, fun q y z hy hz => ?_⟩
  · have hzm := List.mem_of_getElem? hz
    have h0m := List.mem_of_getElem? hw0
    obtain ⟨x, hx, rfl⟩ := hmem z hzm
    obtain ⟨x0, hx0, rfl⟩ := hmem w0 h0m
    have htop : ∀ y ∈ l, far_le (atP r t y.sp) (atP r t x0.sp) := fun y hy => by
      have hym : atWh r t y ∈ whL r t l := hp.symm.subset (List.mem_map.2 ⟨y, hy, rfl⟩)
      obtain ⟨p, hpy⟩ := List.mem_iff_getElem?.1 hym
      rcases Nat.eq_zero_or_pos p with h9 | h9
      · subst h9
        rw [hw0] at hpy
        injection hpy with hpy
        exact hcmp y hy x0 hx0 (by rw [hpy]; exact Int.le_refl _)
      · exact hcmp y hy x0 hx0 (hs 0 p _ _ h9 hw0 hpy).1
    rw [hfe x hx x0 hx0]
    have hzf : ∀ u ∈ l.zipIdx, 0 < (atP r t u.1.sp).2 := fun u hu => hpos u.1 (List.mem_of_getElem? (List.mem_zipIdx_iff_getElem?.1 hu))
    have hsp := (ldF_spec (f := fun u : Sw × Nat => atP r t u.1.sp) l.zipIdx hzf (0, 1)).2
    obtain ⟨i, hi⟩ := List.mem_iff_getElem?.1 hx
    constructor
    · intro e
      refine List.mem_map.2 ⟨(x, i), (hsp (x, i)).2 ⟨List.mem_zipIdx_iff_getElem?.2 hi, fun u hu => ?_⟩, rfl⟩
      have hul := List.mem_of_getElem? (List.mem_zipIdx_iff_getElem?.1 hu)
      refine far_le_trans (hpos _ hul) (hpos _ hx0) (hpos _ hx) (htop _ hul) ?_
      show (atP r t x0.sp).1 * (atP r t x.sp).2 ≤ (atP r t x.sp).1 * (atP r t x0.sp).2
      omega
    · intro hm
      obtain ⟨u, hu, hwho⟩ := List.mem_map.1 hm
      obtain ⟨hu1, hu2⟩ := (hsp u).1 hu
      have hui := List.mem_zipIdx_iff_getElem?.1 hu1
      have hij := field_inj h0 _ _ _ _ hui hi hwho
      rw [hij, hi] at hui
      injection hui with hui
      obtain ⟨i0, hi0⟩ := List.mem_iff_getElem?.1 hx0
      have h1 := hu2 (x0, i0) (List.mem_zipIdx_iff_getElem?.2 hi0)
      have h2 := htop x hx
      rw [← hui] at h1
      unfold far_le at h1 h2
      simp only at h1
      omega
  · intro he
    have h1 := hs q (q + 1) y z (by omega) hy hz
    exact h1.2 (by rw [he.1, he.2])
theorem minL_le (E : Nat) : ∀ (l : List Sw) (f : Int), minG E l f ≤ f
  | [], f => Int.le_refl _
  | y :: r, f => by
    have h1 := minL_le E r (min f (gapV E y))
    unfold minG
    omega
theorem minL_ex (E : Nat) : ∀ (l : List Sw) (f : Int), minG E l f = f ∨ ∃ x ∈ l, minG E l f = gapV E x
  | [], f => .inl rfl
  | y :: r, f => by
    unfold minG
    rcases minL_ex E r (min f (gapV E y)) with h | ⟨x, hx, h⟩
    · rcases Int.le_total f (gapV E y) with h1 | h1
      · exact .inl (by rw [h]; omega)
      · exact .inr ⟨y, by simp, by rw [h]; omega⟩
    · exact .inr ⟨x, List.mem_cons_of_mem _ hx, h⟩
theorem first_pos {r : Race} {l : List Sw} {M : Nat} (h0 : fieldErr r l = 0) (hM : lenV r = M) (hl : ∀ x ∈ l, x.sp.length = M) : 0 < firstG M l ∧ firstG M l ≤ 360000 := by
  have hM1 := (lenV_bd (fieldErr_ok h0).1).1
  have hpos : ∀ x ∈ l, 0 < gapV M x := fun x hx => by
    have hr := whole_rise ((fieldErr_ok h0).2.2 x hx)
    obtain ⟨y, hy⟩ := at_of_lt (l := x.sp) (k := M - 1) (by rw [hl x hx]; omega)
    have h1 : gapV M x = y := getD_of hy
    have h2 := rise_gt hr hy
    omega
  rcases minL_ex M l 360000 with h | ⟨x, hx, h⟩
  · have : firstG M l = 360000 := h
    omega
  · have h1 : firstG M l = gapV M x := h
    have h2 := minL_le M l 360000
    have h3 := hpos x hx
    have h4 : firstG M l ≤ 360000 := h2
    omega
end Go.Proofs.YtdbfcneeiiialaaDoor
