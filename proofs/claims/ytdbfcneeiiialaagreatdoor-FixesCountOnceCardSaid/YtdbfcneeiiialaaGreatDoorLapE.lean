import Derived.Test.YtdbfcneeiiialaaGreatDoorLapB
import Derived.Test.YtdbfcneeiiialaaGreatDoorLapP
import Derived.Deep.RegionHeld3
import Derived.Test.YtdbfcneeiiialaaGreatDoorMkReg
import Derived.Laws.OwnMore
import Derived.BigRegion
import Derived.Test.YtdbfcneeiiialaaGreatDoorPadF
import Derived.Deep.AppendLies
/- (*pace).off, (*pace).least. -/
namespace Go.Proofs.YtdbfcneeiiialaaGreatDoor
open Go.RowKit Go.Lib
set_option linter.unusedVariables false

/-- how far a touch is from an even pace at an end -/
def offG (G E : List Int) (N : Int) (m t e : Nat) : Int := max (G.getD t 0 - (G.getD (m - 1) 0 * E.getD e 0).tdiv N) (-(G.getD t 0 - (G.getD (m - 1) 0 * E.getD e 0).tdiv N))
theorem getD_bd {L : List Int} {B : Int} (hB : 0 ≤ B) (h : ∀ x ∈ L, 0 ≤ x ∧ x ≤ B) (i : Nat) : 0 ≤ L.getD i 0 ∧ L.getD i 0 ≤ B := by
  rw [List.getD_eq_getElem?_getD]
  cases hx : L[i]? with
  | none => simp; exact hB
  | some x => exact h x (List.mem_of_getElem? hx)
theorem getD_ofI {L : List Int} {i : Nat} {x : Int} (h : L[i]? = some x) : L.getD i 0 = x := by rw [List.getD_eq_getElem?_getD, h]; rfl
theorem off_parts {g0 gl en N : Int} (h0 : 0 ≤ g0 ∧ g0 ≤ 1000000000) (h1 : 0 ≤ gl ∧ gl ≤ 1000000000) (h2 : 0 ≤ en ∧ en ≤ 16) (h3 : 1 ≤ N ∧ N ≤ 16) : (0 ≤ gl * en ∧ gl * en ≤ 16000000000) ∧ (0 ≤ (gl * en).tdiv N ∧ (gl * en).tdiv N ≤ 16000000000) := by
  have a1 : 0 ≤ gl * en := Int.mul_nonneg h1.1 h2.1
  have a2 : gl * en ≤ 1000000000 * 16 := Int.mul_le_mul h1.2 h2.2 h2.1 (by omega)
  have a3 : (gl * en).tdiv N = (gl * en) / N := Int.tdiv_eq_ediv_of_nonneg a1
  have a4 : (gl * en) / N ≤ gl * en := Int.ediv_le_self _ a1
  have a5 : 0 ≤ (gl * en) / N := Int.ediv_nonneg a1 (by omega)
  rw [a3]
  omega
theorem offG_bd {G E : List Int} {N : Int} {m : Nat} (hG : ∀ x ∈ G, 0 ≤ x ∧ x ≤ 1000000000) (hE : ∀ x ∈ E, 0 ≤ x ∧ x ≤ 16) (h3 : 1 ≤ N ∧ N ≤ 16) (t e : Nat) : 0 ≤ offG G E N m t e ∧ offG G E N m t e ≤ 1099511627776 := by
  have b0 := getD_bd (by omega) hG t
  have b1 := getD_bd (by omega) hG (m - 1)
  have b2 := getD_bd (by omega) hE e
  have := (off_parts b0 b1 b2 h3).2
  unfold offG
  omega
theorem listed_up {listed : Array Bool} {c : Nat} (i : Nat) (h : listed.getD c false = true) : (listed.setIfInBounds i true).getD c false = true := by
  by_cases hic : i = c
  · subst hic
    rw [Array.getD_eq_getD_getElem?] at h ⊢
    rw [Array.getElem?_setIfInBounds_self]
    split
    · rfl
    · rename_i hlt; rw [Array.getElem?_eq_none (by omega)] at h; cases h
  · rw [getD_set_other _ hic]; exact h
theorem cell_setCell_self {w : World} {b o : Nat} {x : Value} (h : w.cell? ⟨b, o, none⟩ = some x) (v : Value) : (w.setCell ⟨b, o, none⟩ v).cell? ⟨b, o, none⟩ = some v := by
  unfold World.cell? at h
  cases hb : w.heap[b]? with
  | none => simp [hb] at h
  | some ob =>
    cases ob with
    | cells c t fz =>
      simp [hb] at h
      have hlt : o < c.size := by
        rcases Nat.lt_or_ge o c.size with h1 | h1
        · exact h1
        · rw [Array.getElem?_eq_none h1] at h; cases h
      simp [World.cell?, World.setCell, Array.getElem?_modify, hb, hlt]
    | _ => simp [hb] at h
/-- a state, some calls, and one store behind them: what it wrote stands -/
def KW (KK : World → Prop) (calls : List Nat) (st : Nat) (p : Addr) (v : Value) (listed : Array Bool) (w' : World) : Prop := KK w' ∧ (listed.getD st false = true → (∀ c ∈ calls, listed.getD c false = true) ∧ w'.cell? p = some v)
theorem KW.keep {KK : World → Prop} {calls : List Nat} {st i : Nat} {p : Addr} {v : Value} {listed : Array Bool} {w' : World} (h : KW KK calls st p v listed w') (hi : i ≠ st) : KW KK calls st p v (listed.setIfInBounds i true) w' := ⟨h.1, fun e => by
  rw [getD_set_other _ hi] at e
  obtain ⟨h1, h2⟩ := h.2 e
  exact ⟨fun c hc => listed_up i (h1 c hc), h2⟩⟩
theorem KW.call {KK : World → Prop} {calls : List Nat} {st i : Nat} {p : Addr} {v : Value} {listed : Array Bool} {w' w1 : World} (h : KW KK calls st p v listed w') (h0 : listed.getD i true = false) (hc : i ∈ calls) (hi : i ≠ st) (hk : KK w1) : KW KK calls st p v (listed.setIfInBounds i true) w1 := ⟨hk, fun e => by
  rw [getD_set_other _ hi] at e
  have h9 := (h.2 e).1 i hc
  have his : i < listed.size := by
    rcases Nat.lt_or_ge i listed.size with h' | h'
    · exact h'
    · rw [Array.getD_eq_getD_getElem?, Array.getElem?_eq_none h'] at h0; cases h0
  rw [Array.getD_eq_getD_getElem?, Array.getElem?_eq_getElem his] at h0 h9
  simp only [Option.getD_some] at h0 h9
  rw [h0] at h9; cases h9⟩
theorem KW.store {KK : World → Prop} {calls : List Nat} {st : Nat} {p : Addr} {v : Value} {listed : Array Bool} {w1 : World} (hk : KK w1) (hc : ∀ c ∈ calls, listed.getD c false = true) (hv : w1.cell? p = some v) : KW KK calls st p v (listed.setIfInBounds st true) w1 := ⟨hk, fun _ => ⟨fun c h => listed_up st (hc c h), hv⟩⟩
theorem KW.start {KK : World → Prop} {calls : List Nat} {st n : Nat} {p : Addr} {v : Value} {w1 : World} (hk : KK w1) : KW KK calls st p v (Array.replicate n false) w1 := ⟨hk, fun e => by rw [rep_false] at e; cases e⟩
section
variable {w wx w' : World} {P KB : Nat} {rb : Nat → Nat} {N M m : Nat} {Ae : Option Addr} {ce : Nat} {Ag : Option Addr} {cg : Nat} {off : Nat → Nat → Int}
end
theorem lst_bd {off : Nat → Nat → Int} (hB : ∀ t e, 0 ≤ off t e ∧ off t e ≤ 1099511627776) : ∀ f d t e, d ≤ 100 → 0 ≤ LP.lst off f d t e ∧ LP.lst off f d t e ≤ 1125899906842624 := by
  intro f d t e hd
  rw [LP.lst_bst hB f d t e hd]
  cases h : LP.bst off f d t e with
  | none => simp
  | some x =>
    have := LP.bst_bd _ hB _ _ _ _ _ h
    have h2 : (d : Int) * 1099511627776 ≤ 100 * 1099511627776 := Int.mul_le_mul_of_nonneg_right (by omega) (by omega)
    simp only; omega
theorem lst_small {off : Nat → Nat → Int} (hB : ∀ t e, 0 ≤ off t e ∧ off t e ≤ 1099511627776) {f d : Nat} (t e : Nat) (hd : d ≤ 100) (hf : d ≤ f) : LP.lst off f d t e ≤ 109951162777600 := by
  rw [LP.lst_bst hB f d t e hd]
  cases h : LP.bst off f d t e with
  | none => have := (LP.bst_none off f d t e).1 h; omega
  | some x =>
    have := LP.bst_bd _ hB _ _ _ _ _ h
    have h2 : (d : Int) * 1099511627776 ≤ 100 * 1099511627776 := Int.mul_le_mul_of_nonneg_right (by omega) (by omega)
    simp only; omega
end Go.Proofs.YtdbfcneeiiialaaGreatDoor

/- (*pace).stand. -/
namespace Go.Proofs.YtdbfcneeiiialaaGreatDoor
open Go.RowKit Go.Lib
set_option linter.unusedVariables false

theorem repl_set (e M : Nat) (he : e < M) : (List.replicate e (-1 : Int) ++ List.replicate (M - e) 0).set e (-1) = List.replicate (e + 1) (-1) ++ List.replicate (M - (e + 1)) 0 := by
  rw [List.set_append_right _ _ (by rw [List.length_replicate]; exact Nat.le_refl _), List.length_replicate, Nat.sub_self, show M - e = (M - (e + 1)) + 1 by omega, List.replicate_succ, List.set_cons_zero, List.replicate_succ', List.append_assoc]
  rfl
/-- a further end is within reach where this one is not taken -/
theorem stand_step {off : Nat → Nat → Int} (hB : ∀ t e, 0 ≤ off t e ∧ off t e ≤ 1099511627776) {f d t e : Nat} (hd : d + 1 ≤ 100) (hdf : d ≤ f) (hne : off t e + LP.lst off f d (t + 1) (e + 1) ≠ LP.lst off (f + 1) (d + 1) t e) : d + 1 ≤ f := by
  rcases Nat.lt_or_ge f (d + 1) with h | h
  · exfalso
    apply hne
    have h1 : LP.lst off f (d + 1) t (e + 1) = 1125899906842624 := by
      cases f with
      | zero => rfl
      | succ f => unfold LP.lst; rw [if_pos h]
    have h2 := lst_small hB (f := f) (d := d) (t + 1) (e + 1) (by omega) hdf
    have h3 := hB t e
    rw [LP.lst, if_neg (by omega), h1, Int.min_def, if_pos (by omega)]
  · exact h
def natsI (l : List Nat) : List Int := l.map fun k : Nat => (k : Int)
theorem info_slI : (Tryz.prog.info? 22).map (fun i => (i.zero, i.size, i.bytes)) = some (some (.slice none 0 0), 1, 24) := by kernel_rfl
theorem mk_ints (m : Nat) (hm : m ≤ 100) (W : World) : (Instr.makeSlice 22 (.int .i64 m) (.int .i64 m)).run Tryz.prog W = .ok (.slice (some ⟨W.heap.size, 0, none⟩) m m) (W.alloc (.cells (ints (List.replicate m 0)).toArray 3)) := by
  obtain ⟨i, hi, hz0, hz1, hz2⟩ := info_parts info_int
  have := run_makeSlice (P := Tryz.prog) W 22 3 i _ Tryz.underlying22 hi hz0 .i64 .i64 m m (by omega) (Int.le_refl _) (by rw [hz1]; simp; omega) (by rw [hz2]; omega) (by omega)
  rw [hz1, Nat.mul_one] at this
  have e : (madeCells (Value.int .i64 0).cells m) = (ints (List.replicate m 0)).toArray := by
    apply Array.toList_inj.1
    rw [show (Value.int .i64 0).cells = #[Value.int .i64 0] from rfl, toList_madeCells_one, ints_repl]
  rw [show ((m : Int).toNat) = m by omega, e] at this
  exact this
end Go.Proofs.YtdbfcneeiiialaaGreatDoor

/- pad.laps. -/
namespace Go.Proofs.YtdbfcneeiiialaaGreatDoor
open Go.RowKit Go.Lib
set_option linter.unusedVariables false

def lpE (x : LP.Lp) : List Value := [.int .i64 x.length, .int .i64 x.time, .bool x.filled]
theorem lpE_len : ∀ x, (lpE x).length = 3 := fun _ => rfl
abbrev RLp (w : World) (A : Option Addr) (n : Nat) (l : List LP.Lp) : Prop := RN 3 lpE 56 w A n l
theorem info_lap : (Tryz.prog.info? 56).map (fun i => (i.zero, i.size, i.bytes)) = some (some (.agg #[.int .i64 0, .int .i64 0, .bool false]), 3, 24) := by kernel_rfl
/-- numbers of ends, rising, the last of them the last end -/
def UpL : Nat → Nat → List Nat → Prop
  | i, M, [] => i = M
  | i, M, k :: r => i ≤ k ∧ k < M ∧ UpL (k + 1) M r
theorem UpL.mono {M : Nat} : ∀ {l : List Nat} {i j : Nat}, l ≠ [] → UpL i M l → j ≤ i → UpL j M l
  | [], _, _, h, _, _ => absurd rfl h
  | k :: r, i, j, _, h, hj => ⟨by have := h.1; omega, h.2⟩
theorem stnd_up {off : Nat → Nat → Int} (hB : ∀ t e, 0 ≤ off t e ∧ off t e ≤ 1099511627776) (M : Nat) : ∀ (f d t e : Nat), d ≤ 100 → d ≤ f → e + f + 1 = M → UpL e M (LP.stnd off f d t e ++ [M - 1]) ∧ (LP.stnd off f d t e).length = d
  | f, 0, t, e, _, _, hM => by
    have : LP.stnd off f 0 t e = [] := by cases f <;> rfl
    rw [this]
    exact ⟨⟨by omega, by omega, by show M - 1 + 1 = M; omega⟩, rfl⟩
  | 0, d + 1, t, e, _, h, _ => by omega
  | f + 1, d + 1, t, e, hd, h, hM => by
    unfold LP.stnd
    split
    · have := stnd_up hB M f d (t + 1) (e + 1) (by omega) (by omega) (by omega)
      exact ⟨⟨Nat.le_refl _, by omega, this.1⟩, by rw [List.length_cons, this.2]⟩
    · rename_i hne
      have hdf := stand_step hB (f := f) (d := d) (t := t) (e := e) (by omega) (by omega) hne
      have := stnd_up hB M f (d + 1) t (e + 1) hd hdf (by omega)
      exact ⟨UpL.mono (by simp) this.1 (by omega), this.2⟩
/-- the numbers of the ends at which touches stand -/
def standV (N : Nat) (G : List Int) : List Nat := LP.stnd (offG G (endsV N) N G.length) (mN N - 1) (G.length - 1) 0 0 ++ [mN N - 1]
def lapsV (N : Nat) (l : List Int) : List LP.Lp := if (goodV N l).length = 0 then [] else LP.lapsP (endsV N) 0 0 0 ((standV N (goodV N l)).zip (goodV N l))
def RetLp (w : World) (L : List LP.Lp) (e : Ending) (w' : World) : Prop := ∃ A c, e = .returned (.slice A L.length c) ∧ w'.ownsRow w.heap.size 56 3 (.slice A L.length c) L.length (L.flatMap lpE) ∧ Below w.heap.size w w'
theorem cnt_spec {e0 : Int} {M : Nat} {P : Int → Prop} : ∀ (l g h : List Int), (∀ x ∈ l, P x) → (∀ x ∈ g, P x) → g.length ≤ M → (∀ x ∈ (cntGo e0 M g h l).1, P x) ∧ (cntGo e0 M g h l).1.length ≤ M
  | [], g, h, _, hg, hM => ⟨hg, hM⟩
  | t :: r, g, h, hl, hg, hM => by
    unfold cntGo
    by_cases hc : t < (if g.length = 0 then e0 * 1000 else g.getD (g.length - 1) 0 + 2000) ∨ g.length = M
    · rw [if_pos hc]
      exact cnt_spec r g (h ++ [t]) (fun x hx => hl x (List.mem_cons_of_mem _ hx)) hg hM
    · rw [if_neg hc]
      have hn := hc
      refine cnt_spec r (g ++ [t]) h (fun x hx => hl x (List.mem_cons_of_mem _ hx)) (fun x hx => ?_) ?_
      · rcases List.mem_append.1 hx with h1 | h1
        · exact hg x h1
        · simp at h1; subst h1; exact hl _ List.mem_cons_self
      · rw [List.length_append]
        have : g.length ≠ M := fun e => hn (.inr e)
        simp; omega
theorem goodV_ok {N : Nat} {l : List Int} (hb : ∀ x ∈ l, 0 ≤ x ∧ x ≤ 1000000000) : (∀ x ∈ goodV N l, 0 ≤ x ∧ x ≤ 1000000000) ∧ (goodV N l).length ≤ mN N := cnt_spec l [] [] hb (fun _ h => by cases h) (Nat.zero_le _)
theorem endsV_bd {N : Nat} (hN : N ≤ 16) : ∀ x ∈ endsV N, 0 ≤ x ∧ x ≤ 16 := by
  intro x hx
  unfold endsV at hx
  obtain ⟨i, hi, rfl⟩ := List.mem_map.1 hx
  rw [List.mem_range] at hi
  unfold mN at hi
  unfold e0N
  omega
theorem endsV_inc (N : Nat) : LP.Inc (endsV N) := by
  intro a b hab hb
  rw [endsV_len] at hb
  rw [getD_ofI (endsV_at N a (by omega)), getD_ofI (endsV_at N b hb)]
  omega
theorem lap_parts {x y g d : Int} (hx : 0 ≤ x ∧ x ≤ 1000000000) (hy : 0 ≤ y ∧ y ≤ 1000000000) (hg : 0 ≤ g ∧ g ≤ 16) (hd : 1 ≤ d ∧ d ≤ 16) : (-16000000000 ≤ (y - x) * g ∧ (y - x) * g ≤ 16000000000) ∧ (-16000000000 ≤ ((y - x) * g).tdiv d ∧ ((y - x) * g).tdiv d ≤ 16000000000) := by
  have h1 : (y - x) * g ≤ 1000000000 * 16 := by
    rcases Int.le_total 0 (y - x) with h | h
    · exact Int.mul_le_mul (by omega) hg.2 hg.1 (by omega)
    · have := Int.mul_nonneg (show 0 ≤ x - y by omega) hg.1
      have e : (y - x) * g = -((x - y) * g) := by rw [← Int.neg_mul]; congr 1; omega
      omega
  have h2 : -(1000000000 * 16) ≤ (y - x) * g := by
    rcases Int.le_total 0 (x - y) with h | h
    · have := Int.mul_le_mul (show x - y ≤ 1000000000 by omega) hg.2 hg.1 (by omega)
      have e : (y - x) * g = -((x - y) * g) := by rw [← Int.neg_mul]; congr 1; omega
      omega
    · have := Int.mul_nonneg (show 0 ≤ y - x by omega) hg.1
      omega
  generalize (y - x) * g = q at *
  have h3 : q.tdiv d ≤ 16000000000 ∧ -16000000000 ≤ q.tdiv d := by
    rcases Int.le_total 0 q with h | h
    · rw [Int.tdiv_eq_ediv_of_nonneg h]
      have := Int.ediv_le_self d h
      have := Int.ediv_nonneg h (show 0 ≤ d by omega)
      omega
    · have e : q.tdiv d = -((-q).tdiv d) := by rw [Int.neg_tdiv, Int.neg_neg]
      rw [e, Int.tdiv_eq_ediv_of_nonneg (show 0 ≤ -q by omega)]
      have := Int.ediv_le_self d (show 0 ≤ -q by omega)
      have := Int.ediv_nonneg (show 0 ≤ -q by omega) (show 0 ≤ d by omega)
      omega
  omega
theorem own_diffL {w : World} {base : Nat} {e : TypeId} {size n : Nat} {v : Value} {xs : List Value} {b : Nat} {cs : Array Value} {t : TypeId} {fz : Nat × Nat} (h : w.ownsRow base e size v n xs) (hb : w.heap[b]? = some (.cells cs t fz)) (hne : t ≠ e) : v.ownBlock ≠ some b := by
  intro hv
  rcases h.2 with ⟨rfl, _⟩ | ⟨g, cap, cur, rfl, _, hg, _⟩
  · cases hv
  · simp [Value.ownBlock] at hv
    subst hv
    rw [hb] at hg
    injection hg with hg
    injection hg with _ hg
    exact hne hg
theorem UpL.at {M : Nat} : ∀ {l : List Nat} {i q k : Nat}, UpL i M l → l[q]? = some k → k < M ∧ i ≤ k ∧ UpL (k + 1) M (l.drop (q + 1))
  | [], _, _, _, _, h => by simp at h
  | a :: r, i, 0, k, h, hk => by
    obtain rfl : a = k := by simpa using hk
    exact ⟨h.2.1, h.1, h.2.2⟩
  | a :: r, i, q + 1, k, h, hk => by
    have := UpL.at h.2.2 (q := q) (by simpa using hk)
    exact ⟨this.1, by have := h.1; omega, this.2.2⟩
end Go.Proofs.YtdbfcneeiiialaaGreatDoor
