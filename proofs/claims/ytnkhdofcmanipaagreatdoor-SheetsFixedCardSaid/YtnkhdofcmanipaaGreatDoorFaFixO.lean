/- tumbref1.FixedOf: what the reference makes of sheets. -/
import Derived.Test.YtnkhdofcmanipaaGreatDoorFaFixE
namespace Go.Proofs.YtnkhdofcmanipaaGreatDoor
open Go.RowKit Go.Shelf Go.Lib Go.Sort
set_option linter.unusedVariables false

theorem sh_src {w : World} {A : Option Addr} {n : Nat} {l : List Shc} (h : RN 4 shE 62 w A n l) (hp : 0 < n) : ∃ b off, A = some ⟨b, off, none⟩ ∧ ∀ j u, (l.flatMap shE)[j]? = some u → w.cell? ⟨b, off + j, none⟩ = some u := by
  obtain ⟨b, off, cs, fz, ha, hb, hc⟩ := h.2.2 hp
  refine ⟨b, off, ha, fun j u hu => ?_⟩
  have hj := lt_of_at hu
  rw [flat_len shE_len] at hj
  obtain ⟨x, hx⟩ := at_of_lt (l := l) (k := j / 4) (by omega)
  have hi : j % 4 < 4 := Nat.mod_lt _ (by decide)
  have e : j = (j / 4) * 4 + j % 4 := by omega
  have hf := flat_atC shE_len l (j / 4) (j % 4) x hx hi
  rw [← e, hu] at hf
  rw [cell_of_row w b _ cs _ fz hb]
  have h9 := hc (j / 4) x hx (j % 4) u hf.symm
  rw [show off + j = off + (j / 4) * 4 + j % 4 by omega]
  exact h9
theorem sh_one (l : List Shc) : ∀ u ∈ l.flatMap shE, u.oneCell' = true := by
  intro u hu
  obtain ⟨x, _, hx⟩ := List.mem_flatMap.1 hu
  simp only [shE, List.mem_cons, List.not_mem_nil, or_false] at hx
  rcases hx with rfl | rfl | rfl | rfl <;> rfl
set_option maxRecDepth 100000 in
theorem cloneSh_c (A : Option Addr) (n c : Nat) (l : List Shc) (w : World) (h : RN 4 shE 62 w A n l) (hn : n ≤ 1000) :
    Calls Tryz.prog 70 #[.slice A n c] w fun e w' => ∃ A' c', e = .returned (.slice A' n c') ∧ w'.ownsRow w.heap.size 62 4 (.slice A' n c') n (l.flatMap shE) ∧ Below w.heap.size w w' := by
  rcases A with _ | ad
  · have hn0 : n = 0 := by
      rcases Nat.eq_zero_or_pos n with h0 | hp
      · exact h0
      · obtain ⟨b, off, cs, fz, e, _⟩ := h.2.2 hp; cases e
    subst hn0
    have hl : l = [] := List.eq_nil_of_length_eq_zero h.len
    subst hl
    have hnil : ∀ W, (binOp .eql 63 (.slice none 0 c) (.slice none 0 0)).run Tryz.prog W = .ok (.bool true) W := fun W => Go.Lib.run_eql_slice_nil W _ _ none 0 c 0 0 Tryz.underlying63
    clear h
    go_enter Tryz.func70, Tryz.ntmps70
    go_wp2
    go_ret
    exact ⟨none, 0, rfl, World.ownsRow_nil _ _ _ _, Below.refl _ _⟩
  · have hlen := h.len
    have hB := below_new w (.cells #[] 62)
    have hz : w.heap.size ≤ (w.alloc (.cells #[] 62)).heap.size := by simp
    have hown : (w.alloc (.cells #[] 62)).ownsRow w.heap.size 62 4 (.slice (some ⟨w.heap.size, 0, none⟩) 0 0) 0 ([] : List Value) := ⟨rfl, .inr ⟨w.heap.size, 0, #[], rfl, Nat.le_refl _, heap_alloc_new w _, Nat.le_refl _, Nat.zero_le _, by simp, rfl⟩⟩
    have hs := sh_src (h.below hB)
    have hnil : ∀ W, (binOp .eql 63 (.slice (some ad) n c) (.slice none 0 0)).run Tryz.prog W = .ok (.bool false) W := fun W => Go.Lib.run_eql_slice_nil W _ _ (some ad) n c 0 0 Tryz.underlying63
    go_enter Tryz.func70, Tryz.ntmps70
    go_wp2_with (at_builtin; refine wpList_appR rfl (.tmp 5) (.tmp 6) 63 rfl Tryz.underlying63 info_sheetX rfl (by omega) (by omega) hown rfl (fun e => by cases e) hs rfl (by rw [flat_len shE_len, hlen]) (sh_one l) (by omega) hz ?_; intro v4 w4 hown4 hg4)
    have hB4 := below_own hB hown hg4 hz (Nat.le_refl _)
    rw [List.nil_append, Nat.zero_add] at hown4
    obtain ⟨A9, c9, rfl⟩ := own_shape hown4
    go_wp2
    go_ret
    exact ⟨A9, c9, rfl, hown4, hB4⟩
def shcOf (A : Option Addr) (n c : Nat) (M : Shd) : Shc := ⟨M.lane, A, n, c, M.laps, M.time, M.by_⟩
/-- the row of sheets that the reference makes, k of them done -/
structure FO2 (w : World) (r : Race) (base bo n c k : Nat) (S cur : List Shc) (wr : World) : Prop where
  o : wr.ownsRow base 62 4 (.slice (some ⟨bo, 0, none⟩) n c) n (cur.flatMap shE)
  ln : cur.length = n
  lp : ∀ j x, j < k → cur[j]? = some x → wr.ownsRow base 57 3 (.slice x.A x.n x.c) x.n (x.laps.flatMap lpE)
  nb : ∀ j x, j < k → cur[j]? = some x → x.n ≤ 1000
  rest : ∀ j, k ≤ j → cur[j]? = S[j]?
  rb : wr.heap[w.heap.size]? = some (.cells r.cells 51 (0, 0))
  bel : Below w.heap.size w wr
  z : base ≤ wr.heap.size
  hb : w.heap.size < base
section
variable {w wr w' : World} {r : Race} {base bo n c k : Nat} {S cur : List Shc}
theorem FO2.below (h : FO2 w r base bo n c k S cur wr) (B : Below wr.heap.size wr w') : FO2 w r base bo n c k S cur w' := ⟨own_below h.o B, h.ln, fun j x hj hx => own_below (h.lp j x hj hx) B, h.nb, h.rest, blk_below h.rb B, below_next h.bel B, Nat.le_trans h.z B.size, h.hb⟩
theorem FO2.bo_ge (h : FO2 w r base bo n c k S cur wr) : base ≤ bo := (own_row_lt h.o bo (by simp [Value.ownBlock]))
end
/-- a sheet under way in the row -/
structure ShR (wr : World) (base bo n c k : Nat) (cur : List Shc) (A : Option Addr) (m d : Nat) (M : Shd) (wy : World) : Prop where
  o : wy.ownsRow base 62 4 (.slice (some ⟨bo, 0, none⟩) n c) n ((cur.set k (shcOf A m d M)).flatMap shE)
  lo : wy.ownsRow wr.heap.size 57 3 (.slice A m d) m (M.laps.flatMap lpE)
  g : wr.grownBy wy (some bo)
section
variable {w wr wy w' : World} {r : Race} {base bo n c k m d : Nat} {S cur : List Shc} {A : Option Addr} {M : Shd}
theorem ShR.below (h : ShR wr base bo n c k cur A m d M wy) (B : Below wy.heap.size wy w') : ShR wr base bo n c k cur A m d M w' := ⟨own_below h.o B, own_below h.lo B, grown_trans h.g (grown_of_below B)⟩
theorem ShR.cell (h : ShR wr base bo n c k cur A m d M wy) (hk : k < cur.length) : wy.cell? ⟨bo, k * 4, none⟩ = some (.int .i64 M.lane) ∧ wy.cell? ⟨bo, k * 4 + 1, none⟩ = some (.slice A m d) ∧ wy.cell? ⟨bo, k * 4 + 2, none⟩ = some (.int .i64 M.time) ∧ wy.cell? ⟨bo, k * 4 + 3, none⟩ = some (.int .i64 M.by_) := by
  have hx : (cur.set k (shcOf A m d M))[k]? = some (shcOf A m d M) := List.getElem?_set_self hk
  have hl : ((cur.set k (shcOf A m d M)).flatMap shE).length = cur.length * 4 := by rw [flat_len shE_len, List.length_set]
  have h0 := flat_atC shE_len _ k 0 _ hx (by decide)
  have h1 := flat_atC shE_len _ k 1 _ hx (by decide)
  have h2 := flat_atC shE_len _ k 2 _ hx (by decide)
  have h3 := flat_atC shE_len _ k 3 _ hx (by decide)
  have hlen : n * 4 = cur.length * 4 := by rw [← hl]; exact h.o.1.symm
  refine ⟨?_, ?_, ?_, ?_⟩
  · rw [h.o.cellAt (k * 4) (by omega)]; exact h0
  · rw [h.o.cellAt (k * 4 + 1) (by omega)]; exact h1
  · rw [h.o.cellAt (k * 4 + 2) (by omega)]; exact h2
  · rw [h.o.cellAt (k * 4 + 3) (by omega)]; exact h3
/-- a store into the sheet's own fields -/
theorem ShR.set {M' : Shd} {q : Nat} {v : Value} (h : ShR wr base bo n c k cur A m d M wy) (hk : k < cur.length) (hq : q < 4) (he : shE (shcOf A m d M') = (shE (shcOf A m d M)).set q v) (hl : M'.laps = M.laps) : ShR wr base bo n c k cur A m d M' (wy.setCell ⟨bo, k * 4 + q, none⟩ v) := by
  have s1 := h.o.stored (k * 4 + q) v
  rw [flat_set shE_len _ k (shcOf A m d M) (shcOf A m d M') q v (List.getElem?_set_self hk) hq he, List.set_set] at s1
  refine ⟨s1.1, ?_, grown_setCell h.g (p := ⟨bo, k * 4 + q, none⟩) (.inl rfl) _⟩
  rw [hl]
  exact h.lo.kept s1.2 (own_tyX h.o h.lo (by decide))
theorem sh_lapsE {A : Option Addr} {m d : Nat} {M : Shd} (L : List LP.Lp) : ∀ (cur : List Shc) (k : Nat), (cur.set k (shcOf A m d ⟨M.lane, L, M.time, M.by_⟩)).flatMap shE = (cur.set k (shcOf A m d M)).flatMap shE
  | [], _ => rfl
  | x :: r, 0 => rfl
  | x :: r, k + 1 => by rw [List.set_cons_succ, List.set_cons_succ, List.flatMap_cons, List.flatMap_cons, sh_lapsE L r k]
/-- a store into a lap of the sheet -/
theorem ShR.setLap {M' : Shd} {z j q : Nat} {p p' : LP.Lp} {v : Value} (h : ShR wr base bo n c k cur (some ⟨z, 0, none⟩) m d M wy) (hp : M.laps[j]? = some p) (hq : q < 3) (he : lpE p' = (lpE p).set q v) (hM : M' = ⟨M.lane, M.laps.set j p', M.time, M.by_⟩) : ShR wr base bo n c k cur (some ⟨z, 0, none⟩) m d M' (wy.setCell ⟨z, j * 3 + q, none⟩ v) := by
  subst hM
  have s1 := h.lo.stored (j * 3 + q) v
  rw [flat_set lpE_len _ j p p' q v hp hq he] at s1
  exact ⟨by rw [sh_lapsE]; exact h.o.kept s1.2 (own_tyX h.lo h.o (by decide)), s1.1, grown_own h.g s1.2 (own_row_lt h.lo)⟩
theorem ShR.llen (h : ShR wr base bo n c k cur A m d M wy) : M.laps.length = m := own_len lpE_len (by decide) h.lo
theorem ShR.nowBel (h : ShR wr base bo n c k cur A m d M wy) (K : FO2 w r base bo n c k S cur wr) : Below w.heap.size w wy := K.bel.trans (grown_below h.g (by have := K.bo_ge; have := K.hb; omega) K.bel.size)
theorem ShR.race (h : ShR wr base bo n c k cur A m d M wy) (K : FO2 w r base bo n c k S cur wr) : wy.heap[w.heap.size]? = some (.cells r.cells 51 (0, 0)) := blk_grown K.rb h.g (fun e => by have := K.bo_ge; have := K.hb; injection e with e; omega)
theorem ShR.done (h : ShR wr base bo n c k cur A m d M wy) (K : FO2 w r base bo n c k S cur wr) (hk : k < n) (hm : m ≤ 1000) : FO2 w r base bo n c (k + 1) S (cur.set k (shcOf A m d M)) wy := by
  refine ⟨h.o, by rw [List.length_set]; exact K.ln, fun j x hj hx => ?_, fun j x hj hx => ?_, fun j hj => ?_, h.race K, h.nowBel K, Nat.le_trans K.z h.g.size, K.hb⟩
  · by_cases e : j = k
    · subst e
      rw [List.getElem?_set_self (by rw [K.ln]; exact hk)] at hx
      obtain rfl := Option.some.inj hx
      exact own_mono h.lo K.z
    · rw [List.getElem?_set_ne (by omega)] at hx
      exact (K.lp j x (by omega) hx).kept h.g (own_tyX K.o (K.lp j x (by omega) hx) (by decide))
  · by_cases e : j = k
    · subst e
      rw [List.getElem?_set_self (by rw [K.ln]; exact hk)] at hx
      obtain rfl := Option.some.inj hx
      exact hm
    · rw [List.getElem?_set_ne (by omega)] at hx
      exact K.nb j x (by omega) hx
  · rw [List.getElem?_set_ne (by omega)]
    exact K.rest j (by omega)
end
set_option maxHeartbeats 12800000 in
set_option maxRecDepth 100000 in
theorem fixedOf_c (r : Race) (Af : Option Addr) (nf cf : Nat) (f : List Fx) (heat : Int) (A : Option Addr) (n c : Nat) (S : List Shc) (w : World) (hf : RFx w Af nf f) (h : RSh w A n S) (hlp : ∀ x ∈ S, x.n ≤ 1000) (hn0 : 0 < n) (hn10 : n ≤ 10) (hf300 : nf ≤ 300) (hle : ∀ x ∈ f, 0 ≤ x.le) :
    Calls Tryz.prog 32 #[r.val, .slice Af nf cf, .int .i64 heat, .slice A n c] w fun e w' => ∃ (A' : Option Addr) (c' : Nat) (S' : List Shc), e = .returned (.slice A' n c') ∧ S'.map Shc.dat = fixdL r f heat (S.map Shc.dat) ∧ RSh w' A' n S' ∧ Below w.heap.size w w' := by
  have hB0 := below_new w (.cells r.cells 51)
  have hb0 := heap_alloc_new w (.cells r.cells 51)
  have hRf := Lib.hid (fun W (B : Below w.heap.size w W) => hf.below B)
  have hRs := Lib.hid (fun W (B : Below w.heap.size w W) => h.below B)
  have hlen := h.len
  have hfl := Lib.hid hf.len
  have hlen' := Lib.hid hlen
  have hlp' := Lib.hid hlp
  have hle' := Lib.hid hle
  have hCl := Lib.hid (cloneSh_c A n c S (w.alloc (.cells r.cells 51)) (h.below hB0).1 (by omega))
  have hfd := Lib.hid (show fixdL r f heat (S.map Shc.dat) = (S.map Shc.dat).map fun s => putsV (actF r.key heat s.lane f) s from rfl)
  generalize fixdL r f heat (S.map Shc.dat) = OUT at *
  have hlt0 := lt_of_heap hb0
  clear hf h hlp hle hlen
  obtain ⟨key, metres, stroke, course, legs, sex, young, old⟩ := r
  dsimp only [Race.val, Race.cells] at *
  go_enter Tryz.func32, Tryz.ntmps32
  go_wp2_with fail
  refine hCl.out.mono ?_; rintro e w1 ⟨A1, c1, rfl, ho1, B1⟩
  have hB1 := below_next hB0 B1
  have hb1 := blk_below hb0 B1
  clear hCl B1 hB0 hb0
  have hsz0 : (w.alloc (.cells #[.string key, .int .i64 metres, .int .i64 stroke, .int .i64 course, .int .i64 legs, .int .i64 sex, .int .i64 young, .int .i64 old] 51)).heap.size = w.heap.size + 1 := by simp
  rw [hsz0] at ho1
  have hbz : w.heap.size + 1 ≤ w1.heap.size := by have := lt_of_heap hb1; omega
  have hbase : w.heap.size < w.heap.size + 1 := by omega
  generalize w.heap.size + 1 = base at *
  obtain ⟨bo, rfl, hbo⟩ := own_someN ho1 hn0
  have K0 : FO2 w ⟨key, metres, stroke, course, legs, sex, young, old⟩ base bo n c1 0 S S w1 := ⟨ho1, hlen'.out, (fun j x hj _ => by omega), (fun j x hj _ => by omega), (fun j _ => rfl), hb1, hB1, hbz, hbase⟩
  clear ho1 hb1 hB1 hsz0 hbz hbase
  go_wp2_with fail
  go_loopw [20] (fun i wr => ∃ (k : Nat) (cur : List Shc), k ≤ n ∧ i = .int .i64 k ∧ FO2 w ⟨key, metres, stroke, course, legs, sex, young, old⟩ base bo n c1 k S cur wr ∧ Hid ((cur.take k).map Shc.dat = ((S.map Shc.dat).take k).map fun s => putsV (actF key heat s.lane f) s)) (fun i _ => n - (intOf i).toNat)
  case atStart => exact ⟨0, S, Nat.zero_le _, rfl, K0, Lib.hid (by simp)⟩
  case round =>
    clear K0
    rename World => wr
    obtain ⟨k, cur, hk, rfl, K, hG⟩ := hrel
    by_cases hlt : k < n
    · have hlti : (k : Int) < n := by omega
      obtain ⟨bs, os, x, hAe, q0, hx, q1, q2, q3, q4, hxl⟩ := (hRs.out _ K.bel).at4 hlt
      clear hAe q0 q1 q2 q3 q4
      have hcx : cur[k]? = some x := (K.rest k (Nat.le_refl _)).trans hx
      have hxn := hlp'.out x (List.mem_of_getElem? hx)
      have hkc : k < cur.length := by rw [K.ln]; exact hlt
      have y1 : wr.cell? ⟨bo, k * 4 + 1, none⟩ = some (.slice x.A x.n x.c) := by
        have hl : (cur.flatMap shE).length = cur.length * 4 := flat_len shE_len cur
        rw [K.o.cellAt (k * 4 + 1) (by have := K.ln; omega)]
        exact flat_atC shE_len cur k 1 x hcx (by decide)
      obtain ⟨xl, xA, xn, xc, xp, xt, xb⟩ := x
      dsimp only at *
      go_wp2_with fail
      refine (cloneLp_c xA xn xc xp wr hxl hxn).mono ?_; rintro e w5 ⟨A5, c5, rfl, own5, B5⟩
      have K5 := K.below B5
      have hll := own_len lpE_len (by decide) own5
      have hS6 : ShR wr base bo n c1 k cur A5 xn c5 ⟨xl, xp, xt, xb⟩ (w5.setCell ⟨bo, k * 4 + 1, none⟩ (.slice A5 xn c5)) := by
        have s1 := K5.o.stored (k * 4 + 1) (.slice A5 xn c5)
        rw [flat_set shE_len cur k ⟨xl, xA, xn, xc, xp, xt, xb⟩ (shcOf A5 xn c5 ⟨xl, xp, xt, xb⟩) 1 (.slice A5 xn c5) hcx (by decide) rfl] at s1
        exact ⟨s1.1, own5.kept s1.2 (own_tyX K5.o own5 (by decide)), grown_trans (grown_of_below B5) s1.2⟩
      have f1 := K5.o.frozenAt (k * 4 + 1)
      have y5 : w5.cell? ⟨bo, k * 4 + 1, none⟩ = some (.slice xA xn xc) := by
        have hl : (cur.flatMap shE).length = cur.length * 4 := flat_len shE_len cur
        rw [K5.o.cellAt (k * 4 + 1) (by have := K5.ln; omega)]
        exact flat_atC shE_len cur k 1 _ hcx (by decide)
      have hA0 := Lib.hid (show putsV (actF key heat xl (f.drop 0)) ⟨xl, xp, xt, xb⟩ = putsV (actF key heat xl f) ⟨xl, xp, xt, xb⟩ by rw [List.drop_zero])
      have hAs := Lib.hid (fun (q : Nat) (x : Fx) (h : f[q]? = some x) (s : Shd) => act_step (key := key) (heat := heat) (lane := xl) h s)
      have hAe0 := Lib.hid (fun s => show putsV (actF key heat xl []) s = s from rfl)
      obtain ⟨TG, hTG⟩ : ∃ TG, putsV (actF key heat xl f) ⟨xl, xp, xt, xb⟩ = TG := ⟨_, rfl⟩
      rw [hTG] at hA0
      have hG2 : Hid (∀ M : Shd, M = TG → ((cur.set k (shcOf A5 xn c5 M)).take (k + 1)).map Shc.dat = ((S.map Shc.dat).take (k + 1)).map fun s => putsV (actF key heat s.lane f) s) := Lib.hid (fun M hM => by
        have e1 : (cur.set k (shcOf A5 xn c5 M)).take (k + 1) = cur.take k ++ [shcOf A5 xn c5 M] := by
          rw [List.take_add_one, List.take_set_of_le (Nat.le_refl k), List.getElem?_set_self hkc]; rfl
        rw [e1, List.map_append, hG.out, List.take_add_one (i := k), List.getElem?_map, hx, List.map_append]
        congr 1
        show [M] = [putsV (actF key heat xl f) ⟨xl, xp, xt, xb⟩]
        rw [hTG, hM])
      clear hTG hG own5 B5 hx hcx y1 K5 hxl
      go_wp2_with fail
      clear f1 y5
      generalize w5.setCell ⟨bo, k * 4 + 1, none⟩ (.slice A5 xn c5) = w6 at *
      go_loopw [36] (fun i wy => ∃ (q : Nat) (M : Shd), q ≤ nf ∧ i = .int .i64 q ∧ ShR wr base bo n c1 k cur A5 xn c5 M wy ∧ Hid (M.lane = xl ∧ putsV (actF key heat xl (f.drop q)) M = TG)) (fun i _ => nf - (intOf i).toNat)
      case atStart => exact ⟨0, _, Nat.zero_le _, rfl, hS6, Lib.hid ⟨rfl, hA0.out⟩⟩
      case round =>
        clear hS6 hA0
        rename World => wy
        obtain ⟨q, M, hq, rfl, hSh, hM⟩ := hrel
        have hML := hM.out.1
        by_cases hq2 : q < nf
        · have hBw := hSh.nowBel K
          have hkS : k < cur.length := by rw [K.ln]; exact hlt
          obtain ⟨bf, of_, x, rfl, hbf, hx2, g0, g1, g2, g3, g4, g5, g6⟩ := RFx_at7 (hRf.out _ hBw) hq2
          have hstp := Lib.hid ((hAs.out q x hx2 M).symm.trans hM.out.2)
          have hnx := Lib.hid (fun (y : Fx) (h : f[q + 1]? = some y) => show lastF f[q + 1]? x = !samePl y x by rw [h]; rfl)
          have hn1 := Lib.hid (fun (h : f[q + 1]? = none) => show lastF f[q + 1]? x = true by rw [h]; rfl)
          have hhit := Lib.hid (show hitF key heat xl f[q + 1]? x = (lastF f[q + 1]? x && (decide (x.rc = key) && (decide (x.ht = heat) && decide (x.ln = xl)))) from rfl)
          have hxle := hle'.out x (List.mem_of_getElem? hx2)
          have hpl9 := Lib.hid (show (putV x M).lane = xl from (putV_lane x M).trans hML)
          have hP0 := Lib.hid (fun (h : x.tm = 0) => putV_t0 h M)
          have hP1 := Lib.hid (fun (h : ¬ x.tm = 0) (h1 : x.le = 0) => putV_sw h h1 M)
          have hP2 := Lib.hid (fun (h : ¬ x.tm = 0) (h1 : ¬ x.le = 0) => putV_lp h h1 M)
          obtain ⟨LV, hLV⟩ : ∃ LV, lastF f[q + 1]? x = LV := ⟨_, rfl⟩
          rw [hLV] at hnx hn1 hhit
          obtain ⟨HV, hHV⟩ : ∃ HV, hitF key heat xl f[q + 1]? x = HV := ⟨_, rfl⟩
          rw [hHV] at hstp hhit
          generalize putV x M = PM at *
          obtain ⟨rc, ht, ln, le, tm, vr, by_⟩ := x
          dsimp only [fxE] at *
          have hm0 := heap_alloc_new wy (.cells #[.string rc, .int .i64 ht, .int .i64 ln, .int .i64 le, .int .i64 tm, .int .i64 vr, .string by_] 69)
          have hBm := below_new wy (.cells #[.string rc, .int .i64 ht, .int .i64 ln, .int .i64 le, .int .i64 tm, .int .i64 vr, .string by_] 69)
          clear hx2 hLV hHV hM
          go_upto_region 10 with (fail)
          clear g0 g1 g2 g3 g4 g5 g6
          go_cut [14] (fun s14 wz => s14 = .bool (!LV) ∧ wz.heap[wy.heap.size]? = some (.cells #[.string rc, .int .i64 ht, .int .i64 ln, .int .i64 le, .int .i64 tm, .int .i64 vr, .string by_] 69 (0, 0)) ∧ Below wy.heap.size wy wz)
          case first => as_aux_lemma =>
            have y0 := (blk_facts hm0).1 0
            have y1 := (blk_facts hm0).1 1
            have y2 := (blk_facts hm0).1 2
            have y3 := (blk_facts hm0).1 3
            have u1 : IntKind.i64.wrap ((q : Int) + 1) = (q : Int) + 1 := IntWalk.i64_in _ (by omega)
            by_cases hqe : q + 1 = nf
            · obtain rfl : LV = true := hn1.out (List.getElem?_eq_none (by rw [hfl.out]; omega))
              have e9 : ¬ ((q : Int) + 1 < (nf : Int)) := by omega
              have e8 : decide ((q : Int) + 1 < (nf : Int)) = false := decide_eq_false e9
              clear hqe
              go_quiet (fail)
              go_wp2
              go_meet
              case rel => exact ⟨rfl, hm0, below_drewN hBm _⟩
            · obtain ⟨bf2, of2, y, hAe2, hbf2, hy, d0, d1, d2, d3, _, _, _⟩ := RFx_at7 (hRf.out _ hBw) (k := q + 1) (by omega)
              injection hAe2 with hAe2
              injection hAe2 with q1 q2
              subst q1 q2
              have hLy := hnx.out y hy
              unfold samePl at hLy
              obtain ⟨rc2, ht2, ln2, le2, tm2, vr2, by2⟩ := y
              dsimp only at *
              have v0 := (hBm.cell (p := ⟨bf, of_ + (q + 1) * 7, none⟩) hbf).trans d0
              have v1 := (hBm.cell (p := ⟨bf, of_ + (q + 1) * 7 + 1, none⟩) hbf).trans d1
              have v2 := (hBm.cell (p := ⟨bf, of_ + (q + 1) * 7 + 2, none⟩) hbf).trans d2
              have v3 := (hBm.cell (p := ⟨bf, of_ + (q + 1) * 7 + 3, none⟩) hbf).trans d3
              have e9 : (q : Int) + 1 < (nf : Int) := by omega
              have e8 : decide ((q : Int) + 1 < (nf : Int)) = true := decide_eq_true e9
              have u2 : 0 ≤ (q : Int) + 1 := by omega
              have u3 : ((q : Int) + 1).toNat = q + 1 := by omega
              have hcs : ((rc2.toList == rc.toList) = false ∧ LV = true) ∨ (rc2 = rc ∧ (((ht2 == ht) = false ∧ LV = true) ∨ (ht2 = ht ∧ (((ln2 == ln) = false ∧ LV = true) ∨ (ln2 = ln ∧ (((le2 == le) = false ∧ LV = true) ∨ (le2 = le ∧ LV = false))))))) := by
                by_cases w1 : rc2 = rc
                · refine .inr ⟨w1, ?_⟩
                  by_cases w2 : ht2 = ht
                  · refine .inr ⟨w2, ?_⟩
                    by_cases w3 : ln2 = ln
                    · refine .inr ⟨w3, ?_⟩
                      by_cases w4 : le2 = le
                      · exact .inr ⟨w4, by rw [hLy, w1, w2, w3, w4]; simp⟩
                      · exact .inl ⟨beq_eq_false_iff_ne.2 w4, by rw [hLy]; simp [w4]⟩
                    · exact .inl ⟨beq_eq_false_iff_ne.2 w3, by rw [hLy]; simp [w3]⟩
                  · exact .inl ⟨beq_eq_false_iff_ne.2 w2, by rw [hLy]; simp [w2]⟩
                · exact .inl ⟨str_neF w1, by rw [hLy]; simp [w1]⟩
              clear hy d0 d1 d2 d3 hLy hqe hnx hn1
              rcases hcs with ⟨m1, rfl⟩ | ⟨rfl, ⟨m1, rfl⟩ | ⟨rfl, ⟨m1, rfl⟩ | ⟨rfl, ⟨m1, rfl⟩ | ⟨rfl, rfl⟩⟩⟩⟩
              all_goals
                go_quiet (fail)
                go_wp2
                go_meet
                case rel => exact ⟨rfl, hm0, below_drewN hBm _⟩
          case rest =>
            rename World => wz
            obtain ⟨rfl, hm3, hB3⟩ := hcut
            clear hm0 hBm hnx hn1
            have hlS := K.ln
            have hSz := hSh.below hB3
            have y0 := (blk_facts hm3).1 0
            have y1 := (blk_facts hm3).1 1
            have y2 := (blk_facts hm3).1 2
            have y3 := (blk_facts hm3).1 3
            have y4 := (blk_facts hm3).1 4
            have r0 : wz.cell? ⟨w.heap.size, 0, none⟩ = some (.string key) := (blk_facts (hSz.race K)).1 0
            have s0 : wz.cell? ⟨bo, k * 4, none⟩ = some (.int .i64 M.lane) := (hSz.cell hkS).1
            rw [hML] at s0
            have hNo := Lib.hid (fun (h : HV = false) => show putsV (actF key heat xl (f.drop (q + 1))) M = TG by have h1 := hstp.out; rw [h] at h1; exact h1)
            have hYe := Lib.hid (fun (h : HV = true) => show putsV (actF key heat xl (f.drop (q + 1))) PM = TG by have h1 := hstp.out; rw [h] at h1; exact h1)
            have hcs : ((rc.toList == key.toList) = false ∧ (rc.toList != key.toList) = true ∧ HV = false) ∨ (rc = key ∧ (((ht == heat) = false ∧ (ht != heat) = true ∧ HV = false) ∨ (ht = heat ∧ (((ln == xl) = false ∧ (ln != xl) = true ∧ HV = false) ∨ (ln = xl ∧ ((LV = false ∧ HV = false) ∨ (LV = true ∧ HV = true))))))) := by
              have h1 := hhit.out
              by_cases w1 : rc = key
              · refine .inr ⟨w1, ?_⟩
                by_cases w2 : ht = heat
                · refine .inr ⟨w2, ?_⟩
                  by_cases w3 : ln = xl
                  · refine .inr ⟨w3, ?_⟩
                    cases LV
                    · exact .inl ⟨rfl, by rw [h1]; rfl⟩
                    · exact .inr ⟨rfl, by rw [h1, w1, w2, w3]; simp⟩
                  · exact .inl ⟨beq_eq_false_iff_ne.2 w3, by rw [bne_iff_ne]; exact w3, by rw [h1]; simp [w3]⟩
                · exact .inl ⟨beq_eq_false_iff_ne.2 w2, by rw [bne_iff_ne]; exact w2, by rw [h1]; simp [w2]⟩
              · exact .inl ⟨str_neF w1, by rw [bne, str_neF w1]; rfl, by rw [h1]; simp [w1]⟩
            clear hstp hhit hB3
            rcases hcs with ⟨m1, m2, rfl⟩ | ⟨rfl, ⟨m1, m2, rfl⟩ | ⟨rfl, ⟨m1, m2, rfl⟩ | ⟨rfl, ⟨rfl, rfl⟩ | ⟨rfl, rfl⟩⟩⟩⟩
            rotate_right
            · by_cases h4 : tm = 0
              · as_aux_lemma =>
                have e4 : (tm == 0) = true := by rw [h4]; rfl
                obtain rfl : PM = M := hP0.out h4
                clear hNo hP0 hP1 hP2
                go_wp2_with fail
                go_quiet (fail)
                go_wp2
                go_roundw
                case rel => exact ⟨q + 1, PM, by omega, by go_num, hSz.below (below_drewN (Below.refl _ _) _), Lib.hid ⟨hML, by first | exact hYe.out rfl | exact hYe.out trivial⟩⟩
                case measure => simp [intOf]; omega
              have e4 : (tm == 0) = false := beq_eq_false_iff_ne.2 h4
              have hbw := lt_of_heap hm3
              have hbo : bo < wy.heap.size := (hSh.o.lt bo (by simp [Value.ownBlock])).2
              have hzl : ∀ i, (Value.slice A5 xn c5).ownBlock = some i → i < wy.heap.size := fun i hi => (hSh.lo.lt i hi).2
              by_cases h3 : le = 0
              · as_aux_lemma =>
                have e3 : (le == 0) = true := by rw [h3]; rfl
                have e2 : ¬ (0 : Int) < le := by omega
                have e1 : decide ((0 : Int) < le) = false := decide_eq_false e2
                obtain rfl : PM = ⟨M.lane, M.laps, tm, 4⟩ := hP1.out h4 h3
                have hc9 := hSz.cell hkS
                have v1 := hc9.2.1
                have v2 := hc9.2.2.1
                have v3 := hc9.2.2.2
                have f2 := hSz.o.frozenAt (k * 4 + 2)
                have f3 := hSz.o.frozenAt (k * 4 + 3)
                have hS9 := Lib.hid (fun p9 => show ShR wr base bo n c1 k cur A5 xn c5 ⟨M.lane, M.laps, tm, 4⟩ (((wz.drewN p9).setCell ⟨bo, k * 4 + 2, none⟩ (.int .i64 tm)).setCell ⟨bo, k * 4 + 3, none⟩ (.int .i64 4)) ∧ (((wz.drewN p9).setCell ⟨bo, k * 4 + 2, none⟩ (.int .i64 tm)).setCell ⟨bo, k * 4 + 3, none⟩ (.int .i64 4)).heap[wy.heap.size]? = some (.cells #[.string rc, .int .i64 ht, .int .i64 ln, .int .i64 le, .int .i64 tm, .int .i64 vr, .string by_] 69 (0, 0)) from by
                  have hd := below_drewN (Below.refl wz.heap.size wz) p9
                  have s1 := (hSz.below hd).set (M' := ⟨M.lane, M.laps, tm, M.by_⟩) (q := 2) (v := .int .i64 tm) hkS (by decide) rfl rfl
                  have s2 := s1.set (M' := ⟨M.lane, M.laps, tm, 4⟩) (q := 3) (v := .int .i64 4) hkS (by decide) rfl rfl
                  exact ⟨s2, blk_other (blk_other (blk_below hm3 hd) (p := ⟨bo, k * 4 + 2, none⟩) (by show wy.heap.size ≠ bo; omega) _) (p := ⟨bo, k * 4 + 3, none⟩) (by show wy.heap.size ≠ bo; omega) _⟩)
                clear hNo hP0 hP1 hP2 hc9
                go_wp2_with fail
                go_quiet (fail)
                go_wp2_with fail
                clear f2 f3 v1 v2 v3 y0 y1 y2 y3 y4 r0 s0 hSz hm3 hSh
                go_loopw [132] (fun i wv => ∃ j : Nat, j ≤ xn ∧ i = .int .i64 j ∧ ShR wr base bo n c1 k cur A5 xn c5 ⟨M.lane, M.laps, tm, 4⟩ wv ∧ wv.heap[wy.heap.size]? = some (.cells #[.string rc, .int .i64 ht, .int .i64 ln, .int .i64 le, .int .i64 tm, .int .i64 vr, .string by_] 69 (0, 0))) (fun i _ => xn - (intOf i).toNat)
                case atStart => exact ⟨0, Nat.zero_le _, rfl, (hS9.out _).1, (hS9.out _).2⟩
                case round =>
                  clear hS9
                  rename World => wv
                  obtain ⟨j, hj, rfl, hSv, hmv⟩ := hrel
                  by_cases hj2 : j < xn
                  · have w3 := (blk_facts hmv).1 3
                    go_wp2_with fail
                    go_quiet (fail)
                    go_wp2
                    go_roundw
                    case rel => exact ⟨j + 1, by omega, by go_num, hSv.below (below_drewN (Below.refl _ _) _), blk_below hmv (below_drewN (Below.refl _ _) _)⟩
                    case measure => simp [intOf]; omega
                  · obtain rfl : j = xn := by omega
                    go_wp2
                    go_roundw
                    case rel => exact ⟨q + 1, _, by omega, by go_num, hSv, Lib.hid ⟨hML, by first | exact hYe.out rfl | exact hYe.out trivial⟩⟩
                    case measure => simp [intOf]; omega
              · as_aux_lemma =>
                have e3 : (le == 0) = false := beq_eq_false_iff_ne.2 h3
                have e2 : (0 : Int) < le := by omega
                have e1 : decide ((0 : Int) < le) = true := decide_eq_true e2
                obtain rfl : PM = ⟨M.lane, M.laps.map (lpPut le tm), M.time, M.by_⟩ := hP2.out h4 h3
                have v1 := (hSz.cell hkS).2.1
                have hst := Lib.hid (fun (j : Nat) (Lj : List LP.Lp) (p : LP.Lp) (hM : Lj = (M.laps.take j).map (lpPut le tm) ++ M.laps.drop j) (hp : M.laps[j]? = some p) => map_step (lpPut le tm) hM hp)
                have hpe := Lib.hid (fun (p : LP.Lp) (h : p.length = le) => show lpPut le tm p = ⟨p.length, tm, false⟩ from if_pos h)
                have hpn := Lib.hid (fun (p : LP.Lp) (h : ¬ p.length = le) => show lpPut le tm p = p from if_neg h)
                have hxl := Lib.hid hSz.llen
                have hend := Lib.hid (show (M.laps.take xn).map (lpPut le tm) ++ M.laps.drop xn = M.laps.map (lpPut le tm) by rw [List.take_of_length_le (by rw [hxl.out]; exact Nat.le_refl _), List.drop_of_length_le (by rw [hxl.out]; exact Nat.le_refl _), List.append_nil])
                generalize lpPut le tm = PF at *
                clear hNo hP0 hP1 hP2
                go_wp2_with fail
                go_quiet (fail)
                go_wp2_with fail
                clear v1 y0 y1 y2 y3 y4 r0 s0 hSh
                go_loopw [132] (fun i wv => ∃ (j : Nat) (Lj : List LP.Lp), j ≤ xn ∧ i = .int .i64 j ∧ ShR wr base bo n c1 k cur A5 xn c5 ⟨M.lane, Lj, M.time, M.by_⟩ wv ∧ Hid (Lj = (M.laps.take j).map PF ++ M.laps.drop j) ∧ wv.heap[wy.heap.size]? = some (.cells #[.string rc, .int .i64 ht, .int .i64 ln, .int .i64 le, .int .i64 tm, .int .i64 vr, .string by_] 69 (0, 0))) (fun i _ => xn - (intOf i).toNat)
                case atStart => exact ⟨0, M.laps, Nat.zero_le _, rfl, hSz.below (below_drewN (Below.refl _ _) _), Lib.hid (by simp), blk_below hm3 (below_drewN (Below.refl _ _) _)⟩
                case round =>
                  clear hSz hm3
                  rename World => wv
                  obtain ⟨j, Lj, hj, rfl, hSv, hLj, hmv⟩ := hrel
                  by_cases hj2 : j < xn
                  · have hji : (j : Int) < xn := by omega
                    obtain ⟨p, hp⟩ := at_of_lt (l := M.laps) (k := j) (by rw [hxl.out]; exact hj2)
                    obtain ⟨m1, m2, m3⟩ := hst.out j Lj p hLj.out hp
                    obtain ⟨z, hA, hz⟩ := own_someN hSv.lo (by omega)
                    have hzn := hzl z (by rw [hA]; rfl)
                    subst hA
                    have hLn : Lj.length = xn := hSv.llen
                    have c0 : wv.cell? ⟨z, j * 3, none⟩ = some (.int .i64 p.length) := by rw [hSv.lo.cellAt (j * 3) (by omega)]; exact flat_atC lpE_len Lj j 0 p m1 (by decide)
                    have c1' : wv.cell? ⟨z, j * 3 + 1, none⟩ = some (.int .i64 p.time) := by rw [hSv.lo.cellAt (j * 3 + 1) (by omega)]; exact flat_atC lpE_len Lj j 1 p m1 (by decide)
                    have c2 : wv.cell? ⟨z, j * 3 + 2, none⟩ = some (.bool p.filled) := by rw [hSv.lo.cellAt (j * 3 + 2) (by omega)]; exact flat_atC lpE_len Lj j 2 p m1 (by decide)
                    have f1 := hSv.lo.frozenAt (j * 3 + 1)
                    have f2 := hSv.lo.frozenAt (j * 3 + 2)
                    have v1 : wv.cell? ⟨bo, k * 4 + 1, none⟩ = some (.slice (some ⟨z, 0, none⟩) xn c5) := (hSv.cell hkS).2.1
                    have x3 := (blk_facts hmv).1 3
                    have x4 := (blk_facts hmv).1 4
                    by_cases he : p.length = le
                    · have e9 : (p.length == le) = true := by rw [he]; simp
                      have hN := Lib.hid (fun p9 => show ShR wr base bo n c1 k cur (some ⟨z, 0, none⟩) xn c5 ⟨M.lane, Lj.set j (PF p), M.time, M.by_⟩ (((wv.drewN p9).setCell ⟨z, j * 3 + 1, none⟩ (.int .i64 tm)).setCell ⟨z, j * 3 + 2, none⟩ (.bool false)) ∧ (((wv.drewN p9).setCell ⟨z, j * 3 + 1, none⟩ (.int .i64 tm)).setCell ⟨z, j * 3 + 2, none⟩ (.bool false)).heap[wy.heap.size]? = some (.cells #[.string rc, .int .i64 ht, .int .i64 ln, .int .i64 le, .int .i64 tm, .int .i64 vr, .string by_] 69 (0, 0)) from by
                        have hd := below_drewN (Below.refl wv.heap.size wv) p9
                        have s1 := (hSv.below hd).setLap (M' := ⟨M.lane, Lj.set j ⟨p.length, tm, p.filled⟩, M.time, M.by_⟩) (j := j) (q := 1) (p := p) (p' := ⟨p.length, tm, p.filled⟩) (v := .int .i64 tm) m1 (by decide) rfl rfl
                        have s2 := s1.setLap (M' := ⟨M.lane, Lj.set j (PF p), M.time, M.by_⟩) (j := j) (q := 2) (p := ⟨p.length, tm, p.filled⟩) (p' := ⟨p.length, tm, false⟩) (v := .bool false) (List.getElem?_set_self (lt_of_at m1)) (by decide) rfl (by dsimp only; rw [List.set_set, hpe.out p he])
                        exact ⟨s2, blk_other (blk_other (blk_below hmv hd) (p := ⟨z, j * 3 + 1, none⟩) (by show wy.heap.size ≠ z; omega) _) (p := ⟨z, j * 3 + 2, none⟩) (by show wy.heap.size ≠ z; omega) _⟩)
                      clear hSv hmv m1 m3 hp he hLn
                      go_wp2_with fail
                      go_quiet (fail)
                      go_wp2_with fail
                      go_region
                      go_wp2
                      go_roundw
                      case rel => exact ⟨j + 1, Lj.set j (PF p), by omega, by go_num, (hN.out _).1, Lib.hid m2, (hN.out _).2⟩
                      case measure => simp [intOf]; omega
                    · have e9 : (p.length == le) = false := beq_eq_false_iff_ne.2 he
                      have m4 := Lib.hid (m3 (hpn.out p he))
                      clear m1 m2 m3 hp he hLn
                      go_wp2_with fail
                      go_quiet (fail)
                      go_wp2
                      go_roundw
                      case rel => exact ⟨j + 1, Lj, by omega, by go_num, hSv.below (below_drewN (Below.refl _ _) _), m4, blk_below hmv (below_drewN (Below.refl _ _) _)⟩
                      case measure => simp [intOf]; omega
                  · obtain rfl : j = xn := by omega
                    have hM2 : Lj = M.laps.map PF := hLj.out.trans hend.out
                    subst hM2
                    go_wp2
                    go_roundw
                    case rel => exact ⟨q + 1, _, by omega, by go_num, hSv, Lib.hid ⟨hML, by first | exact hYe.out rfl | exact hYe.out trivial⟩⟩
                    case measure => simp [intOf]; omega
            all_goals as_aux_lemma =>
              clear hYe hP0 hP1 hP2
              go_wp2_with fail
              go_quiet (fail)
              go_wp2
              go_roundw
              case rel => exact ⟨q + 1, M, by omega, by go_num, hSz.below (below_drewN (Below.refl _ _) _), Lib.hid ⟨hML, by first | exact hNo.out rfl | exact hNo.out trivial⟩⟩
              case measure => simp [intOf]; omega
        · obtain rfl : q = nf := by omega
          have hMT : M = TG := by
            have h1 := hM.out.2
            rw [List.drop_of_length_le (by rw [hfl.out]; exact Nat.le_refl _), hAe0.out] at h1
            exact h1
          have Kd := hSh.done K hlt hxn
          have hG3 := Lib.hid (hG2.out M hMT)
          clear hG2 hMT hM hSh K hAs hAe0
          go_wp2
          go_roundw
          case rel => exact ⟨k + 1, _, by omega, by go_num, Kd, hG3⟩
          case measure => simp [intOf]; omega
    · obtain rfl : k = n := by omega
      have hD := Lib.hid (show cur.map Shc.dat = OUT by
        have h9 := hG.out
        rw [List.take_of_length_le (by rw [K.ln]; exact Nat.le_refl _), List.take_of_length_le (by rw [List.length_map, hlen'.out]; exact Nat.le_refl _)] at h9
        rw [h9, hfd.out])
      have hRS : RSh wr (some ⟨bo, 0, none⟩) k cur := ⟨RN.of_own shE_len K.o K.ln (by omega), fun x hx => by
        obtain ⟨j, hj, e⟩ := List.getElem_of_mem hx
        have hjx : cur[j]? = some x := by rw [List.getElem?_eq_getElem hj, e]
        have h9 := K.lp j x (by rw [← K.ln]; exact hj) hjx
        exact RN.of_own lpE_len h9 (own_len lpE_len (by decide) h9) (by have := K.nb j x (by rw [← K.ln]; exact hj) hjx; omega)⟩
      have hbel := K.bel
      clear hG K
      go_wp2
      go_ret
      exact ⟨some ⟨bo, 0, none⟩, c1, cur, rfl, hD.out, hRS, hbel⟩
end Go.Proofs.YtnkhdofcmanipaaGreatDoor
