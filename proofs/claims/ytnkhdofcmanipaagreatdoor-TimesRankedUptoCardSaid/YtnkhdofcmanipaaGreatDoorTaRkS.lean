import Derived.Test.YtnkhdofcmanipaaGreatDoorTaP23
import Derived.Deep.RegionHeld3
import Derived.Deep.DeepCutAuto
import Derived.Test.YtnkhdofcmanipaaGreatDoorTaVerdM
import Derived.Test.YtnkhdofcmanipaaGreatDoorTaSeedM
import Derived.Test.YtnkhdofcmanipaaGreatDoorTaMkReg
import Derived.BigRegion
import Derived.Test.YtnkhdofcmanipaaGreatDoorTaTxtO
import Derived.Test.YtnkhdofcmanipaaGreatDoorTaTxtV
/- tumbref1.RankedOf: its result as a function. Printed by wip/mkrko.py. -/
namespace Go.Proofs.YtnkhdofcmanipaaGreatDoor
open Go.RowKit Go.Shelf Go.Lib Go.Sort
open Go.Maps (Keyed string_keyed)
open Go.WideMaps (keyOf_string_mk)
set_option linter.unusedVariables false
set_option linter.unusedSimpArgs false

theorem faultF_bd (s : ByteArray) : ∀ (v : List Vd) (f0 : Int), 0 ≤ f0 → f0 ≤ 8 → (∀ x ∈ v, 0 ≤ x.fault ∧ x.fault ≤ 8) → 0 ≤ v.foldl (fun f x => if x.who = s then x.fault else f) f0 ∧ v.foldl (fun f x => if x.who = s then x.fault else f) f0 ≤ 8
  | [], f0, h0, h1, _ => ⟨h0, h1⟩
  | x :: v, f0, h0, h1, h => by
    have hx := h x (List.mem_cons_self ..)
    rw [List.foldl_cons]
    refine faultF_bd s v _ ?_ ?_ fun y hy => h y (List.mem_cons_of_mem _ hy)
    · split <;> omega
    · split <;> omega
theorem faultV_bd {v : List Vd} (s : ByteArray) (h : ∀ x ∈ v, 0 ≤ x.fault ∧ x.fault ≤ 8) : 0 ≤ faultV v s ∧ faultV v s ≤ 8 := faultF_bd s v 0 (by decide) (by decide) h
/-- how many are faster, as the reference counts -/
def cntR (d : Int) (f : ByteArray → Int) (l : List Sd) (t : Int) : Nat := (l.filter fun x => isGood f x && decide (x.time / d < t / d)).length
theorem cntR_at {d : Int} {f : ByteArray → Int} {l : List Sd} {k : Nat} {x : Sd} (t : Int) (h : l[k]? = some x) : cntR d f (l.drop k) t = (if (isGood f x && decide (x.time / d < t / d)) = true then 1 else 0) + cntR d f (l.drop (k + 1)) t := by
  unfold cntR
  rw [drop_at h, List.filter_cons]
  split <;> simp <;> omega
def gdR (d : Int) (f : ByteArray → Int) (l0 : List Sd) (x : Sd) : Rk := ⟨x.who, 1 + (cntR d f l0 x.time : Int), x.time, f x.who⟩
def goodR (d : Int) (f : ByteArray → Int) (l0 l : List Sd) : List Rk := (l.filter (isGood f)).map (gdR d f l0)
theorem goodR_at {d : Int} {f : ByteArray → Int} {l0 l : List Sd} {k : Nat} {x : Sd} (h : l[k]? = some x) : goodR d f l0 (l.drop k) = if isGood f x then gdR d f l0 x :: goodR d f l0 (l.drop (k + 1)) else goodR d f l0 (l.drop (k + 1)) := by
  unfold goodR
  rw [drop_at h, List.filter_cons]
  split <;> simp
def rrCf (x y : Rk) : Int := Lib.compareInt x.rank y.rank
def refRank (d : Int) (f : ByteArray → Int) (l : List Sd) : List Rk := insL (ltOf rrCf) (goodR d f l l) ++ badL f l
theorem refRank_len (d : Int) (f : ByteArray → Int) (l : List Sd) : (refRank d f l).length = l.length := by
  unfold refRank goodR badL
  rw [List.length_append, insL_len, List.length_map, List.length_map]
  induction l with
  | nil => rfl
  | cons x r ih => rw [List.filter_cons, List.filter_cons]; split <;> rename_i h <;> simp [h] at * <;> omega
set_option maxRecDepth 100000 in
theorem rrCmp_c (x y : Rk) (W : World) :
    Calls Tryz.prog 55 (#[.agg (rkE x).toArray, .agg (rkE y).toArray] ++ #[]) W fun e w' => e = .returned (.int .i64 (rrCf x y)) ∧ Below W.heap.size W w' ∧ W.drawn ≤ w'.drawn := by
  have hC := Lib.hid (fun W => show Calls Tryz.prog 56 #[.int .i64 x.rank, .int .i64 y.rank] W fun e w' => e = .returned (.int .i64 (Lib.compareInt x.rank y.rank)) ∧ W = w' from (Tryz.cmp_Compare_int x.rank y.rank W).mono fun _ _ ⟨h1, h2⟩ => ⟨h1, h2.symm⟩)
  unfold rrCf
  obtain ⟨xw, xr, xt, xf⟩ := x
  obtain ⟨yw, yr, yt, yf⟩ := y
  dsimp only [rkE] at *
  generalize Lib.compareInt xr yr = V at *
  have hbx := blk_alloc (heap_alloc_new W (.cells #[.string xw, .int .i64 xr, .int .i64 xt, .int .i64 xf] 48)) (.cells #[.string yw, .int .i64 yr, .int .i64 yt, .int .i64 yf] 48)
  have hby := heap_alloc_new (W.alloc (.cells #[.string xw, .int .i64 xr, .int .i64 xt, .int .i64 xf] 48)) (.cells #[.string yw, .int .i64 yr, .int .i64 yt, .int .i64 yf] 48)
  rw [alloc_size] at hby
  have hB2 := (below_new W (.cells #[.string xw, .int .i64 xr, .int .i64 xt, .int .i64 xf] 48)).alloc (below_new W _).size (.cells #[.string yw, .int .i64 yr, .int .i64 yt, .int .i64 yf] 48)
  have hD2 : ((W.alloc (.cells #[.string xw, .int .i64 xr, .int .i64 xt, .int .i64 xf] 48)).alloc (.cells #[.string yw, .int .i64 yr, .int .i64 yt, .int .i64 yf] 48)).drawn = W.drawn := rfl
  have z9 := (blk_facts hbx).1 1
  have z10 := (blk_facts hby).1 1
  clear hbx hby
  go_enter Tryz.func55, Tryz.ntmps55
  go_wp2_with fail
  refine (hC.out _).mono ?_; rintro e w' ⟨rfl, rfl⟩
  go_wp2
  go_ret
  exact ⟨rfl, hB2, by rw [hD2]; exact Nat.le_refl _⟩
theorem rrSort_c (l : List Rk) (w : World) (base n : Nat) (u : Value) (hown : w.ownsRow base 48 4 u n (l.flatMap rkE)) (hn : n ≤ 19) :
    Calls Tryz.prog 54 #[u, .func (.func 55) #[] #[]] w fun e w' => e = .returned (.tuple #[]) ∧ w'.ownsRow base 48 4 u n ((insL (ltOf rrCf) l).flatMap rkE) ∧ w.grownBy w' u.ownBlock := by
  obtain ⟨A, c, rfl⟩ := own_shape hown
  rcases Nat.eq_zero_or_pos n with h0 | hp
  · subst h0
    have hl : l = [] := List.eq_nil_of_length_eq_zero (own_len rkE_len (by decide) hown)
    subst hl
    refine (rkSort0_c A c _ w).mono ?_
    rintro e w' ⟨rfl, rfl⟩
    exact ⟨rfl, by rw [insL_nil]; exact hown, grown_refl _ _⟩
  · obtain ⟨gb, rfl, _⟩ := own_someN hown hp
    have eg : ∀ args w, (callFunc 55 args).run Tryz.prog w = .ok (.enter 55 args) w := enters_of Tryz.func55 (by kernel_rfl) rfl
    exact rkSort_c rkE rkE_len (fun x v hv => by simp [rkE] at hv; rcases hv with rfl | rfl | rfl | rfl <;> rfl) rrCf _ _ eg base gb n c l w (fun m os dk hdk x y => (rrCmp_c x y _).mono fun _ _ ⟨he, hB, hD⟩ => ⟨he, grow_of hB hD⟩) hown hn
structure GR (w : World) (bm q : Nat) (D : DataW Unit) (base : Nat) (u1 u2 : Value) (g b : List Rk) (wx : World) : Prop where
  o1 : wx.ownsRow base 48 4 u1 g.length (g.flatMap rkE)
  o2 : wx.ownsRow base 48 4 u2 b.length (b.flatMap rkE)
  dis : Dis u1 u2
  m : MI wx bm q D
  l1 : w.heap.size ≤ bm
  l2 : bm < base
  l3 : base ≤ wx.heap.size
  bel : Below w.heap.size w wx
section
variable {w wx w' : World} {bm q base : Nat} {D : DataW Unit} {u1 u2 : Value} {g b : List Rk}
theorem GR.below (h : GR w bm q D base u1 u2 g b wx) (B : Below wx.heap.size wx w') : GR w bm q D base u1 u2 g b w' :=
  ⟨own_below h.o1 B, own_below h.o2 B, h.dis, h.m.kept (row := none) (grown_of_below B) (by simp), h.l1, h.l2, Nat.le_trans h.l3 B.size, below_next h.bel B⟩
theorem GR.flip (h : GR w bm q D base u1 u2 g b wx) : GR w bm q D base u2 u1 b g wx := ⟨h.o2, h.o1, h.dis.symm, h.m, h.l1, h.l2, h.l3, h.bel⟩
theorem GR.turn {v' : Value} {g' : List Rk} (h : GR w bm q D base u1 u2 g b wx) (ho : w'.ownsRow base 48 4 v' g'.length (g'.flatMap rkE)) (hg : wx.grownBy w' u1.ownBlock) (hat : v'.ownBlock = u1.ownBlock ∨ ∃ p, v'.ownBlock = some p ∧ wx.heap.size ≤ p) : GR w bm q D base v' u2 g' b w' := by
  have hb : ∀ i, u1.ownBlock = some i → base ≤ i := own_row_lt h.o1
  have hl1 := h.l1
  have hl2 := h.l2
  have hl3 := h.l3
  refine ⟨ho, h.o2.kept hg h.dis.ne, ?_, h.m.kept hg (fun e => by have := hb _ e.symm; omega), hl1, hl2, Nat.le_trans hl3 hg.size, below_own h.bel h.o1 hg h.bel.size (by omega)⟩
  intro i h1 h2
  rcases hat with e | ⟨p, e, hp⟩
  · exact h.dis i (e ▸ h1) h2
  · rw [e] at h1
    injection h1 with h1
    have := (h.o2.lt i h2).2
    omega
theorem GR.app1 {v' : Value} {x : Rk} (h : GR w bm q D base u1 u2 g b wx) (ho : w'.ownsRow base 48 4 v' (g.length + 1) (g.flatMap rkE ++ rkE x)) (hg : wx.grownBy w' u1.ownBlock) (hat : v'.ownBlock = u1.ownBlock ∨ ∃ p, v'.ownBlock = some p ∧ wx.heap.size ≤ p) : GR w bm q D base v' u2 (g ++ [x]) b w' :=
  h.turn (by rw [← flat_snoc, List.length_append]; exact ho) hg hat
theorem GR.app2 {v' : Value} {x : Rk} (h : GR w bm q D base u1 u2 g b wx) (ho : w'.ownsRow base 48 4 v' (b.length + 1) (b.flatMap rkE ++ rkE x)) (hg : wx.grownBy w' u2.ownBlock) (hat : v'.ownBlock = u2.ownBlock ∨ ∃ p, v'.ownBlock = some p ∧ wx.heap.size ≤ p) : GR w bm q D base u1 v' g (b ++ [x]) w' :=
  (h.flip.app1 ho hg hat).flip
theorem GR.setBox {p o : Nat} {v : Value} (h : GR w bm q D base u1 u2 g b wx) (h1 : ∀ i, u1.ownBlock = some i → i ≠ p) (h2 : ∀ i, u2.ownBlock = some i → i ≠ p) (hq : bm ≠ p) (hw : w.heap.size ≤ p) : GR w bm q D base u1 u2 g b (wx.setCell ⟨p, o, none⟩ v) := by
  have hg : wx.grownBy (wx.setCell ⟨p, o, none⟩ v) (some p) := grown_setCell (grown_refl _ _) (p := ⟨p, o, none⟩) (.inl rfl) v
  refine ⟨h.o1.kept hg ?_, h.o2.kept hg ?_, h.dis, h.m.kept hg (fun e => hq (Option.some.inj e)), h.l1, h.l2, Nat.le_trans h.l3 hg.size, Below.setCell h.bel hw _⟩
  · cases hu : u1.ownBlock with
    | none => exact .inl rfl
    | some i => exact .inr fun e => h1 i hu (Option.some.inj e)
  · cases hu : u2.ownBlock with
    | none => exact .inl rfl
    | some i => exact .inr fun e => h2 i hu (Option.some.inj e)
end
set_option maxHeartbeats 12800000 in
set_option maxRecDepth 100000 in
theorem rankedOf_c (A B : Option Addr) (n c m c2 : Nat) (l : List Sd) (v : List Vd) (d : Int) (w : World) (h : RSd w A n l) (hv : RVd w B m v) (hn : n ≤ 19) (hm3 : m ≤ 300) (hd : 1 ≤ d) (hd2 : d ≤ 1000) (hso : ∀ x ∈ l, x.who.size ≤ 40 ∧ 0 ≤ x.time ∧ x.time ≤ 360000) (hvo : ∀ x ∈ v, x.who.size ≤ 40 ∧ 0 ≤ x.fault ∧ x.fault ≤ 8) :
    Calls Tryz.prog 17 #[.slice A n c, .slice B m c2, .int .i64 d] w fun e w' => ∃ A' n' c', e = .returned (.slice A' n' c') ∧ w'.ownsRow w.heap.size 48 4 (.slice A' n' c') n' ((refRank d (faultV v) l).flatMap rkE) ∧ Below w.heap.size w w' := by
  have hsk := Lib.hid (fun x hx => (hso x hx).1)
  have hst := Lib.hid (fun x hx => (hso x hx).2)
  have hvk := Lib.hid (fun x hx => (hvo x hx).1)
  have hvf := Lib.hid (fun x hx => (hvo x hx).2)
  have hF9 := Lib.hid (fun s => faultV_bd (v := v) s (fun x hx => (hvo x hx).2))
  have hlv := Lib.hid hv.len
  have hll' := Lib.hid h.len
  have hRL : Hid (refRank d (faultV v) l = insL (ltOf rrCf) (goodR d (faultV v) l l) ++ badL (faultV v) l) := Lib.hid rfl
  generalize refRank d (faultV v) l = RL at *
  clear hso hvo
  have hmm := @run_makeMap Tryz.prog
  have hm0 := mi_new w
  have hB3 := below_new w (.map #[] 0)
  have hz3 : (w.alloc (.map #[] 0)).heap.size = w.heap.size + 1 := alloc_size _ _
  have hne0 : (d == 0) = false := beq_eq_false_iff_ne.2 (by omega)
  obtain ⟨bm, hbm⟩ : ∃ bm, w.heap.size = bm := ⟨_, rfl⟩
  have hbl : w.heap.size ≤ bm := by omega
  go_enter Tryz.func17, Tryz.ntmps17
  go_wp2_with fail
  rw [hbm] at hm0 hz3
  generalize w.alloc (.map #[] 0) = w3 at *
  go_loopw [20] (fun i wr => ∃ (k q : Nat) (D : DataW Unit), k ≤ m ∧ i = .int .i64 k ∧ q ≤ k ∧ MI wr bm q D ∧ Hid (FaultM D (v.take k)) ∧ Below w.heap.size w wr ∧ bm + 1 ≤ wr.heap.size) (fun i _ => m - (intOf i).toNat)
  case atStart => exact ⟨0, 0, .map [], Nat.zero_le _, rfl, Nat.le_refl _, hm0, Lib.hid FaultM.nil, hB3, by omega⟩
  case round =>
    clear hm0 hB3 hz3
    obtain ⟨k, q, D, hk, rfl, hq, hmi, hFM, hB, hzz⟩ := hrel
    by_cases hlt : k < m
    · obtain ⟨b, off, x, rfl, hbl2, hx, c0, c1, c2'⟩ := RVd_at3 (hv.below hB) hlt
      have hT := Lib.hid (show FaultM (D.put (.string x.who.data.toList) (.lit (.int .i64 x.fault))) (v.take (k + 1)) by rw [take_snocV hx]; exact hFM.out.snoc x)
      have hsz := hvk.out x (List.mem_of_getElem? hx)
      have hfb := hvf.out x (List.mem_of_getElem? hx)
      obtain ⟨who, fault, xA, xn, xc⟩ := x
      dsimp only at *
      clear hx
      have hn0 := heap_alloc_new wr (.cells #[.string who, .int .i64 fault, .slice xA xn xc] 98)
      have hm1 : MI (wr.alloc (.cells #[.string who, .int .i64 fault, .slice xA xn xc] 98)) bm q D := hmi.alloc _
      have hB4 := hB.alloc hB.size (.cells #[.string who, .int .i64 fault, .slice xA xn xc] 98)
      have hz4 : (wr.alloc (.cells #[.string who, .int .i64 fault, .slice xA xn xc] 98)).heap.size = wr.heap.size + 1 := alloc_size _ _
      have z0 := (blk_facts hn0).1 0
      have z1 := (blk_facts hn0).1 1
      clear hn0 hmi
      go_wp2_with (at_mapUpdate; refine wpList_mapUpdate_own _ rfl _ _ _ 106 rfl 9 3 (string_keyed Tryz.underlying9) Tryz.underlying106 _ _ q _ rfl hm1 (by unfold maxLen; omega) _ _ _ rfl rfl (keyOf_string_mk Tryz.underlying9 (by unfold maxLen; omega)) _ [] (plainElem_int Tryz.underlying3 (by simp [Lit.wf, IntKind.min, IntKind.max, IntKind.signed, IntKind.bits]; omega)) ?_; intro w5 hown5 hg5)
      have hB5 := hB4.trans (grown_below hg5 (by omega) hB4.size)
      have hz5 := hg5.size
      clear hm1 hB4 hB z0 z1
      go_roundw
      case rel => exact ⟨k + 1, q + 1, _, by omega, by go_num, by omega, hown5, hT, hB5, by omega⟩
      case measure => simp [intOf]; omega
    · obtain rfl : k = m := by omega
      have hFM' : Hid (FaultM D v) := by
        have h9 := hFM.out
        rw [List.take_of_length_le (by rw [hlv.out]; exact Nat.le_refl _)] at h9
        exact Lib.hid h9
      have K0 : GR w bm q D (bm + 1) (.slice none 0 0) (.slice none 0 0) [] [] wr := ⟨World.ownsRow_nil _ _ _ _, World.ownsRow_nil _ _ _ _, (fun i h1 _ => by simp [Value.ownBlock] at h1), hmi, hbl, Nat.lt_succ_self _, hzz, hB⟩
      clear hFM hmi hB hvk hvf hv
      generalize hF : faultV v = F at *
      have hF' := Lib.hid hF
      have hlk := Lib.hid (fun W (h : MI W bm q D) s (hs : s.size ≤ 40) => show (Instr.lookup 106 (.map (some bm)) (.string s) false).run Tryz.prog W = .ok (.int .i64 (F s)) W by
        obtain ⟨fv, hrun, hat⟩ := mi_lookup h s (by unfold maxLen; omega)
        rw [hFM'.out.2 s, hF'.out] at hat
        injection hat with e
        injection e with _ e
        rw [e]
        exact hrun)
      clear hF hFM'
      have hgn : Hid ([] ++ goodR d F l (l.drop 0) = goodR d F l l) := Lib.hid rfl
      go_wp2_with fail
      go_loopw [10, 11, 32] (fun u1 u2 i wr => ∃ (k : Nat) (G Bd : List Rk), k ≤ n ∧ i = .int .i64 k ∧ GR w bm q D (bm + 1) u1 u2 G Bd wr ∧ G.length ≤ k ∧ Bd.length ≤ k ∧ Hid (G ++ goodR d F l (l.drop k) = goodR d F l l) ∧ Hid (Bd ++ badL F (l.drop k) = badL F l)) (fun _ _ i _ => n - (intOf i).toNat)
      case atStart => exact ⟨0, [], [], Nat.zero_le _, rfl, K0, Nat.le_refl _, Nat.le_refl _, Lib.hid rfl, Lib.hid rfl⟩
      case round =>
        clear K0
        rename World => wr
        obtain ⟨k, G, Bd, hk, rfl, K, hgl, hbd, hG, hBd⟩ := hrel
        obtain ⟨A1, c1', rfl⟩ := own_shape K.o1
        obtain ⟨A2, c2', rfl⟩ := own_shape K.o2
        by_cases hlt : k < n
        · obtain ⟨b, off, x, rfl, hbl2, hx, c0, c1⟩ := RSd_at2 (h.below K.bel) hlt
          have hGa := Lib.hid (goodR_at (d := d) (f := F) (l0 := l) hx)
          have hBa := Lib.hid (bad_at (f := F) hx)
          have hsz := hsk.out x (List.mem_of_getElem? hx)
          have htb := hst.out x (List.mem_of_getElem? hx)
          have hgd : Hid (isGood F x = (decide (F x.who = 0) && decide (0 < x.time))) := Lib.hid rfl
          have hro : Hid (rkOf F x = ⟨x.who, 0, x.time, F x.who⟩) := Lib.hid rfl
          have hrg : Hid (gdR d F l x = ⟨x.who, 1 + (cntR d F l x.time : Int), x.time, F x.who⟩) := Lib.hid rfl
          generalize isGood F x = gd at *
          generalize rkOf F x = rx at *
          generalize gdR d F l x = rg at *
          obtain ⟨who, time⟩ := x
          dsimp only at *
          clear hx
          have K5 := K.below (below_new wr (.cells #[.string who, .int .i64 time] 40))
          have hrun := hlk.out _ K5.m who hsz
          have hfb := hF9.out who
          generalize hfv : F who = fv at *
          have hs5 := blk_alloc (heap_alloc_new wr (.cells #[.string who, .int .i64 time] 40)) (.cells #[.string who, .int .i64 0, .int .i64 time, .int .i64 fv] 48)
          have z0 := (blk_facts (heap_alloc_new wr (.cells #[.string who, .int .i64 time] 40))).1 0
          have z1 := (blk_facts (heap_alloc_new wr (.cells #[.string who, .int .i64 time] 40))).1 1
          have hn6 := heap_alloc_new (wr.alloc (.cells #[.string who, .int .i64 time] 40)) (.cells #[.string who, .int .i64 0, .int .i64 time, .int .i64 fv] 48)
          rw [alloc_size] at hn6
          have K6 := K5.below (below_new _ (.cells #[.string who, .int .i64 0, .int .i64 time, .int .i64 fv] 48))
          have hz6 := K6.l3
          have y1' := (blk_facts hn6).2 1
          have y0 := (blk_facts hn6).1 0
          have y1 := (blk_facts hn6).1 1
          have y2 := (blk_facts hn6).1 2
          have y3 := (blk_facts hn6).1 3
          have hlt1 := fun i hi => (K.o1.lt i hi).2
          have hK5o := Lib.hid (fun o => K5.below (below_new _ o))
          have hlt2 := fun i hi => (K.o2.lt i hi).2
          have hbw : bm < wr.heap.size := by have := K.l3; omega
          clear K5 K
          by_cases hg : fv = 0 ∧ 0 < time
          rotate_left
          · have hgd1 : gd = false := by rw [hgd.out]; simp only [Bool.and_eq_false_iff, decide_eq_false_iff_not]; omega
            have hN := Lib.hid (show G ++ goodR d F l (l.drop (k + 1)) = goodR d F l l by rw [← hG.out, hGa.out, hgd1, if_neg (by simp)])
            have hN2 := Lib.hid (show (Bd ++ [⟨who, 0, time, fv⟩]) ++ badL F (l.drop (k + 1)) = badL F l by rw [← hBd.out, hBa.out, hgd1, if_neg (by simp), hro.out]; simp)
            clear hG hBd hGa hBa hgd hro hgd1 hrg hlt1 hlt2 hbw hfv
            by_cases hg2 : time = 0
            · subst hg2
              go_wp2_with (at_builtin; refine wpList_appAt rfl (.tmp 53) (.tmp 55) 34 rfl Tryz.underlying34 info_ranked rfl (by omega) (by omega) K6.o2 rfl rfl (by first | rfl | (simp; done)) (by rfl) (by simp [Value.oneCell']) (by omega) hz6 ?_; intro v7 w7 ho7 hg7 hat7)
              have K7 := K6.app2 (x := ⟨who, 0, 0, fv⟩) ho7 hg7 hat7
              clear ho7 hg7 hat7 K6 z0 z1 y0 y1 y2 y3 hrun hz6 hn6 y1' hs5
              go_roundw
              case rel => exact ⟨k + 1, _, _, by omega, by go_num, K7, by omega, by simp; omega, hN, hN2⟩
              case measure => simp [intOf]; omega
            · have e1 : (time == 0) = false := beq_eq_false_iff_ne.2 hg2
              have e1' : decide (time = 0) = false := decide_eq_false hg2
              have e2 : decide (0 < fv) = true := decide_eq_true (by omega)
              clear hg hg2
              go_wp2_with (at_builtin; refine wpList_appAt rfl (.tmp 53) (.tmp 55) 34 rfl Tryz.underlying34 info_ranked rfl (by omega) (by omega) K6.o2 rfl rfl (by first | rfl | (simp; done)) (by rfl) (by simp [Value.oneCell']) (by omega) hz6 ?_; intro v7 w7 ho7 hg7 hat7)
              have K7 := K6.app2 (x := ⟨who, 0, time, fv⟩) ho7 hg7 hat7
              clear ho7 hg7 hat7 K6 z0 z1 y0 y1 y2 y3 hrun hz6 hn6 y1' hs5
              go_roundw
              case rel => exact ⟨k + 1, _, _, by omega, by go_num, K7, by omega, by simp; omega, hN, hN2⟩
              case measure => simp [intOf]; omega
          · have hgd1 : gd = true := by rw [hgd.out]; simp [hg]
            have hN2 := Lib.hid (show Bd ++ badL F (l.drop (k + 1)) = badL F l by rw [← hBd.out, hBa.out, hgd1, if_pos rfl])
            have hNG := Lib.hid (show ∀ r : Rk, r = rg → (G ++ [r]) ++ goodR d F l (l.drop (k + 1)) = goodR d F l l from fun r e => by rw [← hG.out, hGa.out, hgd1, if_pos rfl, e]; simp)
            obtain ⟨hg1, hg2⟩ := hg
            clear hG hBd hGa hBa hgd hro hgd1
            subst hg1
            have e1 : (time == 0) = false := beq_eq_false_iff_ne.2 (by omega)
            have e1' : decide (time = 0) = false := decide_eq_false (by omega)
            go_wp2_with fail
            have K7 := hK5o.out (.cells #[.string who, .int .i64 1, .int .i64 time, .int .i64 0] 48)
            have hn7 := heap_alloc_new (wr.alloc (.cells #[.string who, .int .i64 time] 40)) (.cells #[.string who, .int .i64 1, .int .i64 time, .int .i64 0] 48)
            rw [alloc_size] at hn7
            have hs7 := blk_alloc (heap_alloc_new wr (.cells #[.string who, .int .i64 time] 40)) (.cells #[.string who, .int .i64 1, .int .i64 time, .int .i64 0] 48)
            clear hK5o K6 z0 z1 y0 y1 y2 y3 hrun hz6 hn6 y1' hs5 hfv
            generalize (wr.alloc (.cells #[.string who, .int .i64 time] 40)).alloc (.cells #[.string who, .int .i64 1, .int .i64 time, .int .i64 0] 48) = w7 at *
            generalize wr.heap.size = b13 at *
            go_loopw [60] (fun i wx => ∃ (j cc : Nat), j ≤ n ∧ i = .int .i64 j ∧ cc ≤ j ∧ wx.heap[b13 + 1]? = some (.cells #[.string who, .int .i64 (1 + (cc : Int)), .int .i64 time, .int .i64 0] 48 (0, 0)) ∧ wx.heap[b13]? = some (.cells #[.string who, .int .i64 time] 40 (0, 0)) ∧ GR w bm q D (bm + 1) (.slice A1 G.length c1') (.slice A2 Bd.length c2') G Bd wx ∧ Hid (cc + cntR d F (l.drop j) time = cntR d F l time)) (fun i _ => n - (intOf i).toNat)
            case atStart => exact ⟨0, 0, Nat.zero_le _, rfl, Nat.le_refl _, hn7, hs7, K7, Lib.hid (by rw [List.drop_zero]; omega)⟩
            case round =>
              clear hn7 hs7 K7
              rename World => wx
              obtain ⟨j, cc, hj, rfl, hcj, hn7, hs7, K7, hC⟩ := hrel
              by_cases hltj : j < n
              · obtain ⟨b2, off2, y, hA, hbl3, hy, d0, d1⟩ := RSd_at2 (h.below K7.bel) hltj
                injection hA with hA
                injection hA with q1 q2
                subst q1 q2
                have hCa := Lib.hid (cntR_at (d := d) (f := F) time hy)
                have hsz2 := hsk.out y (List.mem_of_getElem? hy)
                have htb2 := hst.out y (List.mem_of_getElem? hy)
                have hgy : Hid (isGood F y = (decide (F y.who = 0) && decide (0 < y.time))) := Lib.hid rfl
                generalize isGood F y = gy at *
                obtain ⟨who2, t2⟩ := y
                dsimp only at *
                clear hy
                have K8 := K7.below (below_new wx (.cells #[.string who2, .int .i64 t2] 40))
                have hn8 := blk_alloc hn7 (.cells #[.string who2, .int .i64 t2] 40)
                have hs8 := blk_alloc hs7 (.cells #[.string who2, .int .i64 t2] 40)
                have hy8 := heap_alloc_new wx (.cells #[.string who2, .int .i64 t2] 40)
                clear hn7 hs7 K7
                go_wp2_with fail
                clear d0 d1
                generalize wx.alloc (.cells #[.string who2, .int .i64 t2] 40) = w8 at *
                generalize wx.heap.size = b16 at *
                have r0 : w8.cell? ⟨b16, 0, none⟩ = some (.string who2) := (blk_facts hy8).1 0
                have r1 : w8.cell? ⟨b16, 1, none⟩ = some (.int .i64 t2) := (blk_facts hy8).1 1
                have x13 : w8.cell? ⟨b13, 1, none⟩ = some (.int .i64 time) := (blk_facts hs8).1 1
                have hrun2 := fun nq => hlk.out (w8.drewN nq) (K8.below (below_drewN (Below.refl _ _) nq)).m who2 hsz2
                have r14 := (blk_facts hn8).1 1
                have r14' := (blk_facts hn8).2 1
                generalize F who2 = f2 at *
                by_cases ha : 0 < t2
                rotate_left
                · have g1 : decide (0 < t2) = false := decide_eq_false ha
                  have hgw : (gy && decide (t2 / d < time / d)) = false := by rw [hgy.out, g1]; simp
                  have hC2 := Lib.hid (show cc + cntR d F (l.drop (j + 1)) time = cntR d F l time by rw [← hC.out, hCa.out, if_neg (by rw [hgw]; decide)]; omega)
                  clear hC hCa hgy hgw
                  go_wp2_with fail
                  go_quiet (fail)
                  clear r0 r1 x13 hrun2
                  go_wp2
                  go_roundw
                  case rel => exact ⟨j + 1, cc, by omega, by go_num, by omega, hn8, hs8, K8.below (below_drewN (Below.refl _ _) _), hC2⟩
                  case measure => simp [intOf]; omega
                have g1 : decide (0 < t2) = true := decide_eq_true ha
                by_cases hb9 : f2 = 0
                rotate_left
                · have g2 : (f2 == 0) = false := beq_eq_false_iff_ne.2 hb9
                  have g2' : decide (f2 = 0) = false := decide_eq_false hb9
                  have hgw : (gy && decide (t2 / d < time / d)) = false := by rw [hgy.out, g2']; simp
                  clear hb9
                  have hC2 := Lib.hid (show cc + cntR d F (l.drop (j + 1)) time = cntR d F l time by rw [← hC.out, hCa.out, if_neg (by rw [hgw]; decide)]; omega)
                  clear hC hCa hgy hgw
                  go_wp2_with fail
                  go_quiet (fail)
                  clear r0 r1 x13 hrun2
                  go_wp2
                  go_roundw
                  case rel => exact ⟨j + 1, cc, by omega, by go_num, by omega, hn8, hs8, K8.below (below_drewN (Below.refl _ _) _), hC2⟩
                  case measure => simp [intOf]; omega
                subst hb9
                by_cases hc9 : t2 / d < time / d
                · have g3 : decide (t2 / d < time / d) = true := decide_eq_true hc9
                  have hgw : (gy && decide (t2 / d < time / d)) = true := by rw [hgy.out, g1, g3]; simp
                  have hC2 := Lib.hid (show cc + 1 + cntR d F (l.drop (j + 1)) time = cntR d F l time by rw [← hC.out, hCa.out, if_pos hgw]; omega)
                  clear hC hCa hgy hgw
                  go_wp2_with fail
                  go_quiet (fail)
                  have wr9 : IntKind.i64.wrap (1 + (cc : Int) + 1) = 1 + (cc : Int) + 1 := IntWalk.i64_in _ (by omega)
                  clear r0 r1 x13 hrun2
                  go_wp2
                  go_roundw
                  case rel => exact ⟨j + 1, cc + 1, by omega, by go_num, by omega, by
                      have h9 := blk_set (w := w8.drewN nq) hn8 1 (.int .i64 (1 + (cc : Int) + 1))
                      rw [show (1 + ((cc + 1 : Nat) : Int)) = 1 + (cc : Int) + 1 by omega]
                      first | exact h9 | simpa using h9, blk_other (w := w8.drewN nq) hs8 (p := ⟨b13 + 1, 1, none⟩) (show b13 ≠ b13 + 1 by omega) _, (K8.below (below_drewN (Below.refl _ _) _)).setBox (fun i hi => by have := hlt1 i hi; omega) (fun i hi => by have := hlt2 i hi; omega) (by omega) (by omega), hC2⟩
                  case measure => simp [intOf]; omega
                · have g3 : decide (t2 / d < time / d) = false := decide_eq_false hc9
                  have hgw : (gy && decide (t2 / d < time / d)) = false := by rw [g3]; simp
                  have hC2 := Lib.hid (show cc + cntR d F (l.drop (j + 1)) time = cntR d F l time by rw [← hC.out, hCa.out, if_neg (by rw [hgw]; decide)]; omega)
                  clear hC hCa hgy hgw
                  go_wp2_with fail
                  go_quiet (fail)
                  clear r0 r1 x13 hrun2
                  go_wp2
                  go_roundw
                  case rel => exact ⟨j + 1, cc, by omega, by go_num, by omega, hn8, hs8, K8.below (below_drewN (Below.refl _ _) _), hC2⟩
                  case measure => simp [intOf]; omega
              · obtain rfl : j = n := by omega
                have hcc : cc = cntR d F l time := by
                  have h9 := hC.out
                  rw [drop_end (by rw [hll'.out]; exact Nat.le_refl _)] at h9
                  simpa [cntR] using h9
                have y0 := (blk_facts hn7).1 0
                have y1 := (blk_facts hn7).1 1
                have y2 := (blk_facts hn7).1 2
                have y3 := (blk_facts hn7).1 3
                have hz7 := K7.l3
                have hRg := Lib.hid (hNG.out ⟨who, 1 + (cc : Int), time, 0⟩ (by rw [hrg.out, hcc]))
                clear hcc hC hn7 hs7 hNG hrg
                go_wp2_with (at_builtin; refine wpList_appAt rfl (.tmp 90) (.tmp 92) 34 rfl Tryz.underlying34 info_ranked rfl (by omega) (by omega) K7.o1 rfl rfl (by first | rfl | (simp; done)) (by rfl) (by simp [Value.oneCell']) (by omega) hz7 ?_; intro v9 w9 ho9 hg9 hat9)
                have K9 := K7.app1 (x := ⟨who, 1 + (cc : Int), time, 0⟩) ho9 hg9 hat9
                clear ho9 hg9 hat9 K7 y0 y1 y2 y3 hz7
                go_roundw
                case rel => exact ⟨k + 1, _, _, by omega, by go_num, K9, by simp; omega, by omega, hRg, hN2⟩
                case measure => simp [intOf]; omega
        · obtain rfl : k = n := by omega
          have hGf : G = goodR d F l l := by have := hG.out; rw [drop_end (by rw [hll'.out]; exact Nat.le_refl _)] at this; simpa [goodR] using this
          have hBf : Bd = badL F l := by have := hBd.out; rw [drop_end (by rw [hll'.out]; exact Nat.le_refl _)] at this; simpa [badL] using this
          have hSo := Lib.hid (rrSort_c G wr (bm + 1) G.length _ K.o1 (by omega))
          have hRL2 : Hid (insL (ltOf rrCf) G ++ Bd = RL) := Lib.hid (by rw [hRL.out, ← hGf, ← hBf])
          have hSl : (insL (ltOf rrCf) G).length = G.length := insL_len _ _
          generalize insL (ltOf rrCf) G = S at *
          generalize hN : G.length = N at *
          generalize hm2 : Bd.length = m2 at *
          clear hG hBd hGf hBf hst hsk hlk h hRL hN
          go_wp2_with fail
          refine hSo.out.mono ?_; rintro e w7 ⟨rfl, ho7, hg7⟩
          have K7 : GR w bm q D (bm + 1) (.slice A1 N c1') (.slice A2 m2 c2') S Bd w7 := K.turn (by rw [hSl]; exact ho7) hg7 (.inl rfl)
          clear hSo K
          have ho2 := K7.o2
          rw [hm2] at ho2
          have hA2 : A2 = none → c2' = 0 := fun e => by
            rcases ho2.2 with ⟨h9, _⟩ | ⟨g9, cap, cur, hv9, _⟩
            · injection h9
            · injection hv9 with hv9; rw [e] at hv9; cases hv9
          have hr2 : 0 < m2 → ∃ b off, A2 = some ⟨b, off, none⟩ ∧ ∀ j u, (Bd.flatMap rkE)[j]? = some u → w7.cell? ⟨b, off + j, none⟩ = some u := fun hp => by
            obtain ⟨g9, e9, _⟩ := own_someN ho2 hp
            refine ⟨g9, 0, e9, fun j u hu => ?_⟩
            subst e9
            rw [Nat.zero_add, ho2.cellAt j (by have := lt_of_at hu; rw [← ho2.1]; exact this)]
            exact hu
          have hfl : (Bd.flatMap rkE).length = m2 * 4 := by rw [flat_len rkE_len, hm2]
          have hoc : ∀ u ∈ Bd.flatMap rkE, u.oneCell' = true := fun u hu => by
            obtain ⟨y, hy, hu2⟩ := List.mem_flatMap.1 hu
            simp [rkE] at hu2
            rcases hu2 with rfl | rfl | rfl | rfl <;> rfl
          have hz := K7.l3
          have hBel := K7.bel
          have hl12 : w.heap.size ≤ bm + 1 := by omega
          clear K7 ho2 hmm hg7 hSl hm2
          go_wp2_with (at_builtin; refine wpList_appR rfl (.tmp 97) (.tmp 98) 34 rfl Tryz.underlying34 info_ranked rfl (by omega) (by omega) ho7 rfl hA2 hr2 rfl hfl hoc (by omega) hz ?_; intro v9 w9 ho9 hg9)
          have hB9 := below_own hBel ho7 hg9 hBel.size hl12
          obtain ⟨A9, c9, rfl⟩ := own_shape ho9
          rw [← List.flatMap_append, hRL2.out] at ho9
          clear hBel hz hA2 hr2 hfl hoc ho7
          go_wp2
          go_ret
          exact ⟨A9, N + m2, c9, rfl, own_mono ho9 hl12, hB9⟩
end Go.Proofs.YtnkhdofcmanipaaGreatDoor

/- The stream's RankedList. Printed by wip/mkrkl.py. -/
namespace Go.Proofs.YtnkhdofcmanipaaGreatDoor
open Go.RowKit Go.Shelf Go.Lib Go.Sort
set_option linter.unusedVariables false
set_option linter.unusedSimpArgs false

end Go.Proofs.YtnkhdofcmanipaaGreatDoor

/- The stream's RankString; bounds of right ranks. -/
namespace Go.Proofs.YtnkhdofcmanipaaGreatDoor
open Go.RowKit Go.Lib
set_option linter.unusedVariables false
set_option linter.unusedSimpArgs false

end Go.Proofs.YtnkhdofcmanipaaGreatDoor
