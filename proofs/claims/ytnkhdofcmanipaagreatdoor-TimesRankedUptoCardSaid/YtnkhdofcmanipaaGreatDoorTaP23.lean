import Derived.Test.YtnkhdofcmanipaaGreatDoorProg
import Derived.Test.YtnkhdofcmanipaaGreatDoorTaStructs
import Derived.BigGuardPart
import Derived.Laws.StructEq
import Derived.Test.YtnkhdofcmanipaaGreatDoorTaSortR
import Derived.Test.YtnkhdofcmanipaaGreatDoorTaSeedM
import Derived.Test.YtnkhdofcmanipaaGreatDoorTaSortSt
import Derived.Test.YtnkhdofcmanipaaGreatDoorTaApp2
import Derived.Test.YtnkhdofcmanipaaGreatDoorTaRegAp
/- slices.Equal over ranks. -/
namespace Go.Proofs.YtnkhdofcmanipaaGreatDoor
open Go.RowKit
set_option linter.unusedVariables false

theorem str_ne {a b : ByteArray} (h : a ≠ b) : (a.toList == b.toList) = false := by
  rw [beq_eq_false_iff_ne, ByteArray.toList_eq, ByteArray.toList_eq]
  intro e
  exact h (by cases a; cases b; congr 1; exact Array.toList_inj.mp e)
structure Rk where
  who : ByteArray
  rank : Int
  time : Int
  fault : Int
deriving DecidableEq
def rkE (p : Rk) : List Value := [.string p.who, .int .i64 p.rank, .int .i64 p.time, .int .i64 p.fault]
theorem rkE_len : ∀ x, (rkE x).length = 4 := fun _ => rfl
abbrev RRk (w : World) (A : Option Addr) (n : Nat) (l : List Rk) : Prop := RN 4 rkE 48 w A n l
theorem RRk.at4 {w : World} {A : Option Addr} {n : Nat} {l : List Rk} (h : RRk w A n l) {k : Nat} (hk : k < n) : ∃ b off x, A = some ⟨b, off, none⟩ ∧ b < w.heap.size ∧ l[k]? = some x ∧ w.cell? ⟨b, off + k * 4, none⟩ = some (.string x.who) ∧ w.cell? ⟨b, off + k * 4 + 1, none⟩ = some (.int .i64 x.rank) ∧ w.cell? ⟨b, off + k * 4 + 2, none⟩ = some (.int .i64 x.time) ∧ w.cell? ⟨b, off + k * 4 + 3, none⟩ = some (.int .i64 x.fault) := by
  obtain ⟨b, off, x, hA, hb, hx, hc⟩ := h.at_ hk
  exact ⟨b, off, x, hA, hb, hx, hc 0 _ rfl, hc 1 _ rfl, hc 2 _ rfl, hc 3 _ rfl⟩
set_option maxHeartbeats 1600000 in
set_option maxRecDepth 100000 in
theorem equalRk_c (A1 A2 : Option Addr) (n c m d : Nat) (l1 l2 : List Rk) (w : World) (h1 : RRk w A1 n l1) (h2 : RRk w A2 m l2) :
    Calls Tryz.prog 18 #[.slice A1 n c, .slice A2 m d] w fun e w' => e = .returned (.bool (decide (l1 = l2))) ∧ ∃ q, w' = w.drewN q := by
  have b1 := h1.bd
  have b2 := h2.bd
  by_cases hnm : n = m
  rotate_left
  · have hd : decide (l1 = l2) = false := by simp; rintro rfl; have := h1.len; have := h2.len; omega
    have hne : ((n : Int) != (m : Int)) = true := by rw [bne_iff_ne]; omega
    rw [hd]
    clear hd
    go_enter Tryz.func18, Tryz.ntmps18
    go_wp2
    go_ret
    exact ⟨rfl, 0, rfl⟩
  subst hnm
  have hL1 := Lib.hid h1.len
  have hL2 := Lib.hid h2.len
  go_enter Tryz.func18, Tryz.ntmps18
  go_wp2
  go_loopw [13] (fun i wr => ∃ k q : Nat, k ≤ n ∧ i = .int .i64 k ∧ wr = w.drewN q ∧ Hid (∀ j, j < k → l1[j]? = l2[j]?)) (fun i _ => n - (intOf i).toNat)
  case atStart => exact ⟨0, 0, Nat.zero_le _, rfl, rfl, Lib.hid (fun j h => absurd h (by omega))⟩
  case round =>
    obtain ⟨k, q0, hk, rfl, rfl, hF⟩ := hrel
    by_cases hlt : k < n
    · obtain ⟨b, off, x, rfl, hbl, hx, c0, c1, c2, c3⟩ := RRk.at4 h1 hlt
      obtain ⟨b', off', y, rfl, hbl', hy, e0, e1, e2, e3⟩ := RRk.at4 h2 hlt
      have hx' := Lib.hid hx
      have hy' := Lib.hid hy
      clear hx hy
      by_cases hxy : x = y
      · subst hxy
        go_wp2
        go_quiet (fail)
        go_wp2
        go_roundw
        case rel => exact ⟨k + 1, _, by omega, by go_num, rfl, Lib.hid (fun j hj => by
          by_cases hjk : j = k
          · subst hjk; rw [hx'.out, hy'.out]
          · exact hF.out j (by omega))⟩
        case measure => simp [intOf]; omega
      · obtain ⟨x0, x1, x2, x3⟩ := x
        obtain ⟨y0, y1, y2, y3⟩ := y
        dsimp only at c0 c1 c2 c3 e0 e1 e2 e3
        have hcases : (x0.toList == y0.toList) = false ∨ (x0 = y0 ∧ ((x1 == y1) = false ∨ (x1 = y1 ∧ ((x2 == y2) = false ∨ (x2 = y2 ∧ (x3 == y3) = false))))) := by
          by_cases q0 : x0 = y0
          · refine .inr ⟨q0, ?_⟩
            by_cases q1 : x1 = y1
            · refine .inr ⟨q1, ?_⟩
              by_cases q2 : x2 = y2
              · refine .inr ⟨q2, beq_eq_false_iff_ne.2 (fun q3 => hxy (by rw [q0, q1, q2, q3]))⟩
              · exact .inl (beq_eq_false_iff_ne.2 q2)
            · exact .inl (beq_eq_false_iff_ne.2 q1)
          · exact .inl (str_ne q0)
        have hfin : Hid (decide (l1 = l2) = false) := Lib.hid (by
          simp only [decide_eq_false_iff_not]
          rintro rfl
          rw [hx'.out] at hy'
          exact hxy (Option.some.inj hy'.out))
        clear hxy
        rcases hcases with h0 | ⟨rfl, h1 | ⟨rfl, h2 | ⟨rfl, h3⟩⟩⟩
        all_goals
          go_wp2
          go_quiet (fail)
          go_wp2
          go_ret
          exact ⟨ret_b (by rw [hfin.out]), _, by rw [World.drewN_drewN]⟩
    · have hfin : Hid (decide (l1 = l2) = true) := Lib.hid (by
        simp only [decide_eq_true_eq]
        apply List.ext_getElem?; intro j
        by_cases hj : j < n
        · exact hF.out j (by omega)
        · rw [List.getElem?_eq_none (by rw [hL1.out]; omega), List.getElem?_eq_none (by rw [hL2.out]; omega)])
      go_wp2
      go_ret
      exact ⟨ret_b (by rw [hfin.out]), _, rfl⟩
end Go.Proofs.YtnkhdofcmanipaaGreatDoor

/- judge.rank: seeds ranked by their times, verdicts told by a map; plain functions and the walk of its sort. -/
namespace Go.Proofs.YtnkhdofcmanipaaGreatDoor
open Go.RowKit Go.Shelf Go.Lib Go.Sort
set_option linter.unusedVariables false

instance : Inhabited Rk := ⟨⟨⟨#[]⟩, 0, 0, 0⟩⟩
def rkOf (f : ByteArray → Int) (x : Sd) : Rk := ⟨x.who, 0, x.time, f x.who⟩
def isGood (f : ByteArray → Int) (x : Sd) : Bool := decide (f x.who = 0) && decide (0 < x.time)
def goodL (f : ByteArray → Int) (l : List Sd) : List Rk := (l.filter (isGood f)).map (rkOf f)
def badL (f : ByteArray → Int) (l : List Sd) : List Rk := (l.filter fun x => !isGood f x).map (rkOf f)
def rkCf (d : Int) (x y : Rk) : Int := x.time / d - y.time / d
def rkSorted (d : Int) (l : List Rk) : List Rk := insL (ltOf (rkCf d)) l
/-- the ranks, one after the other: p the time and the rank ahead -/
def rnkF (d : Int) : List Rk → Int → Option (Int × Int) → List Rk
  | [], _, _ => []
  | x :: r, i, p =>
    let q := match p with
      | some (t, k) => if x.time / d = t then k else i + 1
      | none => i + 1
    ⟨x.who, q, x.time, x.fault⟩ :: rnkF d r (i + 1) (some (x.time / d, q))
def rankL (d : Int) (f : ByteArray → Int) (l : List Sd) : List Rk := rnkF d (rkSorted d (goodL f l)) 0 none ++ badL f l
theorem rnkF_len (d : Int) : ∀ (l : List Rk) (i : Int) (p : Option (Int × Int)), (rnkF d l i p).length = l.length
  | [], _, _ => rfl
  | x :: r, i, p => by unfold rnkF; simp only [List.length_cons]; rw [rnkF_len]
/-- what stands ahead of number k of the ranks -/
def prevR (d : Int) (R : List Rk) (k : Nat) : Option (Int × Int) := if k = 0 then none else (R[k - 1]?).map fun y => (y.time / d, y.rank)
def nextR (d : Int) (x : Rk) (k : Nat) (p : Option (Int × Int)) : Int := match p with
  | some (t, q) => if x.time / d = t then q else (k : Int) + 1
  | none => (k : Int) + 1
theorem rnkF_at {d : Int} : ∀ (l : List Rk) (i : Nat) (p : Option (Int × Int)) (k : Nat) (x : Rk), l[k]? = some x → ∃ q, (rnkF d l i p)[k]? = some ⟨x.who, q, x.time, x.fault⟩ ∧ q = nextR d x (i + k) (if k = 0 then p else prevR d (rnkF d l i p) k)
  | [], _, _, _, _, h => by simp at h
  | y :: r, i, p, 0, x, h => by
    obtain rfl : y = x := by simpa using h
    refine ⟨_, rfl, ?_⟩
    rw [if_pos rfl]
    unfold nextR
    cases p <;> rfl
  | y :: r, i, p, k + 1, x, h => by
    have h' : r[k]? = some x := by simpa using h
    obtain ⟨q, h1, h2⟩ := rnkF_at r (i + 1) (some (y.time / d, nextR d y i p)) k x h'
    have e0 : rnkF d (y :: r) i p = ⟨y.who, nextR d y i p, y.time, y.fault⟩ :: rnkF d r ((i + 1 : Nat) : Int) (some (y.time / d, nextR d y i p)) := by
      rw [show ((i + 1 : Nat) : Int) = (i : Int) + 1 by push_cast; rfl]
      cases p <;> rfl
    refine ⟨q, by rw [e0]; exact h1, ?_⟩
    rw [h2, if_neg (show ¬ k + 1 = 0 by omega)]
    have e1 : (if k = 0 then some (y.time / d, nextR d y i p) else prevR d (rnkF d r ((i + 1 : Nat) : Int) (some (y.time / d, nextR d y i p))) k) = prevR d (rnkF d (y :: r) i p) (k + 1) := by
      unfold prevR
      rw [if_neg (by omega : ¬ k + 1 = 0), e0]
      by_cases hk : k = 0
      · subst hk; simp
      · rw [if_neg hk]
        show _ = Option.map _ ((_ :: rnkF d r ((i + 1 : Nat) : Int) _)[k]?)
        obtain ⟨j, rfl⟩ : ∃ j, k = j + 1 := ⟨k - 1, by omega⟩
        rfl
    rw [e1, show i + 1 + k = i + (k + 1) by omega]
/-- the row while the ranks are written: the first k are done -/
def midR (d : Int) (S : List Rk) (k : Nat) : List Rk := (rnkF d S 0 none).take k ++ S.drop k
theorem midR_at {d : Int} {S : List Rk} {k : Nat} {x : Rk} (h : S[k]? = some x) : (midR d S k)[k]? = some x := by
  have hk := lt_of_at h
  unfold midR
  rw [List.getElem?_append_right (by rw [List.length_take]; omega), List.length_take, rnkF_len, Nat.min_eq_left (by omega), Nat.sub_self, List.getElem?_drop]
  exact h
theorem midR_prev {d : Int} {S : List Rk} {k j : Nat} (hj : j < k) (hk : k ≤ S.length) : (midR d S k)[j]? = (rnkF d S 0 none)[j]? := by
  unfold midR
  rw [List.getElem?_append_left (by rw [List.length_take, rnkF_len]; omega), List.getElem?_take, if_pos hj]
theorem midR_set {d : Int} {S : List Rk} {k : Nat} {x y : Rk} (h : S[k]? = some x) (hy : (rnkF d S 0 none)[k]? = some y) : (midR d S k).set k y = midR d S (k + 1) := by
  have hk := lt_of_at h
  apply List.ext_getElem?
  intro j
  rw [List.getElem?_set]
  have hl : (midR d S k).length = S.length := by unfold midR; rw [List.length_append, List.length_take, rnkF_len, List.length_drop]; omega
  by_cases e : k = j
  · subst e
    rw [if_pos rfl, if_pos (by omega), midR_prev (by omega) (by omega), hy]
  · rw [if_neg e]
    rcases Nat.lt_or_ge j k with hj | hj
    · rw [midR_prev hj (by omega), midR_prev (by omega) (by omega)]
    · unfold midR
      rw [List.getElem?_append_right (by rw [List.length_take]; omega), List.getElem?_append_right (by rw [List.length_take]; omega), List.length_take, List.length_take, rnkF_len, List.getElem?_drop, List.getElem?_drop]
      congr 1
      omega
theorem midR_len {d : Int} {S : List Rk} {k : Nat} (h : k ≤ S.length) : (midR d S k).length = S.length := by unfold midR; rw [List.length_append, List.length_take, rnkF_len, List.length_drop]; omega
theorem rkSWO (d : Int) : SWO (ltOf (rkCf d)) := by
  refine ⟨fun x => ?_, fun x y z h1 h2 => ?_, fun x y z h1 h2 => ?_⟩
  · unfold ltOf rkCf; simp
  · unfold ltOf rkCf at *; simp at *; omega
  · unfold ltOf rkCf at *; simp at *; omega
theorem rk_perm (d : Int) (l : List Rk) : (rkSorted d l).Perm l := (insL_spec (rkSWO d) l).1
theorem midR_zero (d : Int) (S : List Rk) : midR d S 0 = S := rfl
theorem midR_all (d : Int) (S : List Rk) : midR d S S.length = rnkF d S 0 none := by
  unfold midR
  rw [List.drop_of_length_le (Nat.le_refl _), List.append_nil, List.take_of_length_le (by rw [rnkF_len]; exact Nat.le_refl _)]
theorem rk_set : ∀ (l : List Rk) (k : Nat) (v : Int) (x : Rk), l[k]? = some x →
    (l.flatMap rkE).set (k * 4 + 1) (.int .i64 v) = (l.set k ⟨x.who, v, x.time, x.fault⟩).flatMap rkE
  | [], _, _, _, h => by simp at h
  | x :: l, 0, v, t, h => by
    obtain rfl : x = t := by simpa using h
    simp [rkE]
  | x :: l, k + 1, v, t, h => by
    rw [List.set_cons_succ, List.flatMap_cons, List.flatMap_cons, ← rk_set l k v t (by simpa using h), List.set_append_right _ _ (by show 4 ≤ _; omega)]
    congr 2
    show (k + 1) * 4 + 1 - 4 = _; omega
set_option maxHeartbeats 1600000 in
set_option maxRecDepth 100000 in
theorem rkCmp_c (d : Int) (x y : Rk) (W : World) (b5 : Nat) (h5 : W.heap[b5]? = some (.cells #[.int .i64 d] 3 (0, 0))) (hd : 1 ≤ d) (hd2 : d ≤ 1000) (hx : 0 ≤ x.time ∧ x.time ≤ 360000) (hy : 0 ≤ y.time ∧ y.time ≤ 360000) :
    Calls Tryz.prog 103 (#[.agg (rkE x).toArray, .agg (rkE y).toArray] ++ #[.pointer (some ⟨b5, 0, none⟩)]) W fun e w' => e = .returned (.int .i64 (rkCf d x y)) ∧ Below W.heap.size W w' ∧ W.drawn ≤ w'.drawn := by
  have hV : rkCf d x y = x.time / d - y.time / d := rfl
  generalize rkCf d x y = V at *
  have hV' := Lib.hid hV
  clear hV
  obtain ⟨xw, xr, xt, xf⟩ := x
  obtain ⟨yw, yr, yt, yf⟩ := y
  dsimp only [rkE] at *
  have lt5 := lt_of_heap h5
  have h5' := blk_alloc (blk_alloc h5 (.cells #[.string xw, .int .i64 xr, .int .i64 xt, .int .i64 xf] 48)) (.cells #[.string yw, .int .i64 yr, .int .i64 yt, .int .i64 yf] 48)
  have hbx := blk_alloc (heap_alloc_new W (.cells #[.string xw, .int .i64 xr, .int .i64 xt, .int .i64 xf] 48)) (.cells #[.string yw, .int .i64 yr, .int .i64 yt, .int .i64 yf] 48)
  have hby := heap_alloc_new (W.alloc (.cells #[.string xw, .int .i64 xr, .int .i64 xt, .int .i64 xf] 48)) (.cells #[.string yw, .int .i64 yr, .int .i64 yt, .int .i64 yf] 48)
  rw [alloc_size] at hby
  have hB2 := (below_new W (.cells #[.string xw, .int .i64 xr, .int .i64 xt, .int .i64 xf] 48)).trans ((below_new (W.alloc (.cells #[.string xw, .int .i64 xr, .int .i64 xt, .int .i64 xf] 48)) (.cells #[.string yw, .int .i64 yr, .int .i64 yt, .int .i64 yf] 48)).mono (by simp))
  have hD2 : ((W.alloc (.cells #[.string xw, .int .i64 xr, .int .i64 xt, .int .i64 xf] 48)).alloc (.cells #[.string yw, .int .i64 yr, .int .i64 yt, .int .i64 yf] 48)).drawn = W.drawn := rfl
  have z8 := (blk_facts h5').1 0
  have z9 := (blk_facts hbx).1 2
  have z10 := (blk_facts hby).1 2
  have q1 : 0 ≤ xt / d := Int.ediv_nonneg hx.1 (by omega)
  have q2 : xt / d ≤ xt := Int.ediv_le_self _ hx.1
  have q3 : 0 ≤ yt / d := Int.ediv_nonneg hy.1 (by omega)
  have q4 : yt / d ≤ yt := Int.ediv_le_self _ hy.1
  have hne : (d == 0) = false := beq_eq_false_iff_ne.2 (by omega)
  have hw : IntKind.i64.wrap (xt / d - yt / d) = xt / d - yt / d := IntWalk.i64_in _ (by omega)
  clear h5 h5' hbx hby
  go_enter Tryz.func103, Tryz.ntmps103
  go_wp2
  generalize (W.alloc (.cells #[.string xw, .int .i64 xr, .int .i64 xt, .int .i64 xf] 48)).alloc (.cells #[.string yw, .int .i64 yr, .int .i64 yt, .int .i64 yf] 48) = w5 at *
  go_quiet (fail)
  go_wp2
  go_ret
  exact ⟨ret_i hV'.out.symm, below_drewN hB2 _, by show W.drawn ≤ w5.drawn + nq; omega⟩
theorem rkS_flat {p : Rk → Prop} (l : List { x : Rk // p x }) : l.flatMap (fun x => rkE x.1) = (l.map Subtype.val).flatMap rkE := by
  induction l with
  | nil => rfl
  | cons x r ih => rw [List.flatMap_cons, List.map_cons, List.flatMap_cons, ih]
/-- ranks in a row of the call's own, sorted by their times -/
theorem rkSorted_c (d : Int) (l : List Rk) (w : World) (base gb n c b5 : Nat) (hown : w.ownsRow base 48 4 (.slice (some ⟨gb, 0, none⟩) n c) n (l.flatMap rkE)) (hp : 0 < n) (hn : n ≤ 19) (h5 : w.heap[b5]? = some (.cells #[.int .i64 d] 3 (0, 0))) (hd : 1 ≤ d) (hd2 : d ≤ 1000) (hw : ∀ x ∈ l, 0 ≤ x.time ∧ x.time ≤ 360000) :
    Calls Tryz.prog 54 #[.slice (some ⟨gb, 0, none⟩) n c, .func (.func 103) #[] #[.pointer (some ⟨b5, 0, none⟩)]] w fun e w' => e = .returned (.tuple #[]) ∧ w'.ownsRow base 48 4 (.slice (some ⟨gb, 0, none⟩) n c) n ((rkSorted d l).flatMap rkE) ∧ w.grownBy w' (some gb) := by
  obtain ⟨ls, hls⟩ := sub_list (p := fun x : Rk => 0 ≤ x.time ∧ x.time ≤ 360000) l hw
  have hlen := own_len rkE_len (by decide) hown
  have hl0 : 0 < ls.length := by have : (ls.map Subtype.val).length = n := by rw [hls, hlen]
                                 rw [List.length_map] at this; omega
  have hinh : Inhabited { x : Rk // 0 ≤ x.time ∧ x.time ≤ 360000 } := ⟨ls[0]⟩
  have e1 := insL_map (ltOf fun x y : { x : Rk // 0 ≤ x.time ∧ x.time ≤ 360000 } => rkCf d x.1 y.1) (ltOf (rkCf d)) Subtype.val (fun _ _ => rfl) ls
  rw [hls] at e1
  have hown' : w.ownsRow base 48 4 (.slice (some ⟨gb, 0, none⟩) n c) n (ls.flatMap fun x => rkE x.1) := by rw [rkS_flat, hls]; exact hown
  have eg : ∀ args w, (callFunc 103 args).run Tryz.prog w = .ok (.enter 103 args) w := enters_of Tryz.func103 (by kernel_rfl) rfl
  refine (rkSort_c (fun x : { x : Rk // 0 ≤ x.time ∧ x.time ≤ 360000 } => rkE x.1) (fun _ => rfl) (fun x v hv => by simp [rkE] at hv; rcases hv with rfl | rfl | rfl | rfl <;> rfl) (fun x y => rkCf d x.1 y.1) _ _ eg base gb n c ls w (fun m os dk hdk x y => ?_) hown' hn).mono ?_
  · obtain ⟨_, hg⟩ := own_sortedK (fun x : { x : Rk // 0 ≤ x.time ∧ x.time ≤ 360000 } => rkE x.1) 4 (fun _ => rfl) (by decide) hown' (l' := dk.toList) (by rw [Array.length_toList]; exact hdk) m os
    rw [Array.toArray_toList] at hg
    generalize sortWorldK (fun x : { x : Rk // 0 ≤ x.time ∧ x.time ≤ 360000 } => rkE x.1) 4 w gb 0 m dk os = W at *
    have hK : Keep 48 w W := keep_of_app hown' hg
    exact (rkCmp_c d x.1 y.1 W b5 (hK _ _ _ _ (by decide) h5) hd hd2 x.2 y.2).mono fun _ _ ⟨he, hB, hD⟩ => ⟨he, grow_of hB hD⟩
  · rintro e w' ⟨rfl, ho, hg⟩
    rw [rkS_flat, ← e1] at ho
    exact ⟨rfl, ho, hg⟩
end Go.Proofs.YtnkhdofcmanipaaGreatDoor

/- Verdicts as data; judge.checkVerdicts; judge.rank: the walk. -/
namespace Go.Proofs.YtnkhdofcmanipaaGreatDoor
open Go.RowKit
open Go.Maps (Keyed string_keyed)
open Go.WideMaps (keyOf_string_mk)
set_option linter.unusedVariables false

structure Vd where
  who : ByteArray
  fault : Int
  A : Option Addr
  n : Nat
  c : Nat
def vdE (x : Vd) : List Value := [.string x.who, .int .i64 x.fault, .slice x.A x.n x.c]
theorem vdE_len : ∀ x, (vdE x).length = 3 := fun _ => rfl
abbrev RVd (w : World) (A : Option Addr) (n : Nat) (l : List Vd) : Prop := RN 3 vdE 98 w A n l
theorem RVd_at3 {w : World} {A : Option Addr} {n : Nat} {l : List Vd} (h : RVd w A n l) {k : Nat} (hk : k < n) : ∃ b off x, A = some ⟨b, off, none⟩ ∧ b < w.heap.size ∧ l[k]? = some x ∧ w.cell? ⟨b, off + k * 3, none⟩ = some (.string x.who) ∧ w.cell? ⟨b, off + k * 3 + 1, none⟩ = some (.int .i64 x.fault) ∧ w.cell? ⟨b, off + k * 3 + 2, none⟩ = some (.slice x.A x.n x.c) := by
  obtain ⟨b, off, x, hA, hb, hx, hc⟩ := h.at_ hk
  exact ⟨b, off, x, hA, hb, hx, hc 0 _ rfl, hc 1 _ rfl, hc 2 _ rfl⟩
def verdGo : Option ByteArray → List Vd → Int
  | _, [] => 0
  | p, x :: l => if keyB x.who = false then 5 else if ¬ (0 ≤ x.fault ∧ x.fault ≤ 8) then 4 else if leO x.who p = true then 7 else verdGo (some x.who) l
def verdErr (l : List Vd) : Int := if 300 < l.length then 2 else verdGo none l
def prevV (l : List Vd) (k : Nat) : Option ByteArray := if k = 0 then none else (l[k - 1]?).map Vd.who
theorem prevV_succ {l : List Vd} {k : Nat} {x : Vd} (h : l[k]? = some x) : prevV l (k + 1) = some x.who := by unfold prevV; rw [if_neg (by omega)]; show (l[k]?).map Vd.who = _; rw [h]; rfl
theorem verdGo_at {l : List Vd} {k : Nat} {x : Vd} (p : Option ByteArray) (h : l[k]? = some x) : verdGo p (l.drop k) = if keyB x.who = false then 5 else if ¬ (0 ≤ x.fault ∧ x.fault ≤ 8) then 4 else if leO x.who p = true then 7 else verdGo (some x.who) (l.drop (k + 1)) := by rw [drop_at h]; rfl
set_option maxHeartbeats 6400000 in
set_option maxRecDepth 100000 in
theorem checkVerdicts_c (A : Option Addr) (n c : Nat) (l : List Vd) (w : World) (h : RVd w A n l) :
    Calls Tryz.prog 102 #[.slice A n c] w fun e w' => e = .returned (.int .i64 (verdErr l)) ∧ Below w.heap.size w w' := by
  have hl := h.len
  have hbd := h.bd
  have hE : verdErr l = if 300 < n then 2 else verdGo none l := by unfold verdErr; rw [hl]
  have hGa := Lib.hid (fun k x p (h : l[k]? = some x) => verdGo_at p h)
  have hG0 := Lib.hid (show ∀ p, verdGo p [] = 0 from fun p => rfl)
  generalize verdErr l = E at *
  generalize verdGo = FG at *
  have hE' := Lib.hid hE
  have hl' := Lib.hid hl
  clear hE hl
  by_cases hbig : 300 < n
  · go_enter Tryz.func102, Tryz.ntmps102
    go_wp2
    go_ret
    exact ⟨ret_i (by rw [hE'.out, if_pos hbig]), Below.refl _ _⟩
  go_enter Tryz.func102, Tryz.ntmps102
  go_wp2
  go_loopw [10] (fun i wr => ∃ k : Nat, k ≤ n ∧ i = .int .i64 k ∧ Below w.heap.size w wr ∧ Hid (FG (prevV l k) (l.drop k) = FG none l)) (fun i _ => n - (intOf i).toNat)
  case atStart => exact ⟨0, Nat.zero_le _, rfl, Below.refl _ _, Lib.hid rfl⟩
  case round =>
    obtain ⟨k, hk, rfl, hB, hF⟩ := hrel
    by_cases hlt : k < n
    · obtain ⟨b, off, x, rfl, hbl, hx, c0, c1, c2⟩ := RVd_at3 (h.below hB) hlt
      have hS := Lib.hid (hGa.out k x (prevV l k) hx)
      have hP := Lib.hid (prevV_succ hx)
      obtain ⟨who, fault, xA, xn, xc⟩ := x
      dsimp only at *
      clear hx
      go_wp2_with fail
      refine (isKey_c who _).mono ?_; rintro e w2 ⟨rfl, B2⟩
      have hbox := blk_below (heap_alloc_new wr _) B2
      have hB2 := below_nextBox hB B2
      clear c0 c1 c2
      cases hkb : keyB who
      · have hR := Lib.hid (show FG none l = 5 by rw [← hF.out, hS.out, if_pos hkb])
        clear hkb
        go_wp2
        go_ret
        exact ⟨ret_i (by rw [hE'.out, if_neg hbig, hR.out]), hB2⟩
      have hS2 := Lib.hid (show FG (prevV l k) (l.drop k) = if ¬ (0 ≤ fault ∧ fault ≤ 8) then 4 else if leO who (prevV l k) = true then 7 else FG (some who) (l.drop (k + 1)) by rw [hS.out, if_neg (by simp [hkb])])
      clear hS hkb
      have zx := (blk_facts hbox).1 0
      have zy := (blk_facts hbox).1 1
      have hlt2 := lt_of_heap hbox
      by_cases hT : 0 ≤ fault ∧ fault ≤ 8
      rotate_left
      · have hR := Lib.hid (show FG none l = 4 by rw [← hF.out, hS2.out, if_pos hT])
        have hd : decide (0 ≤ fault ∧ fault ≤ 8) = false := decide_eq_false hT
        clear hT
        go_wp2_with (go_at_call 60; refine (within_c _ _ _ _).mono ?_; rintro e w' ⟨rfl, rfl⟩; rw [hd])
        go_ret
        exact ⟨ret_i (by rw [hE'.out, if_neg hbig, hR.out]), hB2⟩
      have hS2' := Lib.hid (show FG (prevV l k) (l.drop k) = if leO who (prevV l k) = true then 7 else FG (some who) (l.drop (k + 1)) by rw [hS2.out, if_neg (by simpa using hT)])
      have hd : decide (0 ≤ fault ∧ fault ≤ 8) = true := decide_eq_true hT
      clear hS2 hT
      by_cases hk0 : k = 0
      · subst hk0
        have hR := Lib.hid (show FG none l = FG (some who) (l.drop (0 + 1)) by rw [← hF.out, hS2'.out]; rfl)
        clear hF hS2'
        go_wp2_with (go_at_call 60; refine (within_c _ _ _ _).mono ?_; rintro e w' ⟨rfl, rfl⟩; rw [hd])
        go_quiet (fail)
        go_wp2
        go_roundw
        case rel => exact ⟨0 + 1, by omega, by go_num, below_drewN hB2 _, Lib.hid (by rw [hP.out, hR.out])⟩
        case measure => simp [intOf]; omega
      · obtain ⟨b', off', y, hA', hbl', hy, d0, _, _⟩ := RVd_at3 (h.below hB2) (k := k - 1) (by omega)
        injection hA' with hA'
        injection hA' with e1 e2
        subst e1 e2
        have hPk : prevV l k = some y.who := by unfold prevV; rw [if_neg hk0, hy]; rfl
        have hS3 := Lib.hid (show FG none l = if leS who y.who = true then 7 else FG (some who) (l.drop (k + 1)) by rw [← hF.out, hS2'.out, hPk]; rfl)
        have hL := Lib.hid (show leS who y.who = (Op.bytesLess who.toList y.who.toList || (who.toList == y.who.toList)) from rfl)
        clear hF hS2' hy hPk
        generalize y.who = yw at *
        have e2 : (0 : Int) ≤ (k : Int) - 1 := by omega
        have e4 : (k : Int) - 1 < n := by omega
        have e1 : IntKind.i64.wrap ((k : Int) - 1) = (k : Int) - 1 := IntWalk.i64_in _ (by omega)
        have e3 : ((k : Int) - 1).toNat = k - 1 := by omega
        have e6 : 0 < k := by omega
        have e9 : (1 : Int) ≤ (k : Int) := by omega
        have e10 : (k : Int) ≤ n := by omega
        have e11 : (k : Int) < n := by omega
        have e7 : decide (0 < k) = true := decide_eq_true e6
        have e8 : decide ((0 : Int) < (k : Int)) = true := decide_eq_true (by omega)
        go_wp2_with (go_at_call 60; refine (within_c _ _ _ _).mono ?_; rintro e w' ⟨rfl, rfl⟩; rw [hd])
        go_quiet (fail)
        rw [← hL.out]
        clear e1 e2 e3 e4 e6 e7 e8 e9 e10 e11
        generalize leS who yw = q at *
        cases q
        · have hR := Lib.hid (show FG none l = FG (some who) (l.drop (k + 1)) by rw [hS3.out]; rfl)
          clear hL hS3
          go_wp2
          go_roundw
          case rel => exact ⟨k + 1, by omega, by go_num, below_drewN hB2 _, Lib.hid (by rw [hP.out, hR.out])⟩
          case measure => simp [intOf]; omega
        · have hR := Lib.hid (show FG none l = 7 by rw [hS3.out]; rfl)
          clear hL hS3
          go_wp2
          go_ret
          exact ⟨ret_i (by rw [hE'.out, if_neg hbig, hR.out]), below_drewN hB2 _⟩
    · obtain rfl : k = n := by omega
      have hR := Lib.hid (show FG none l = 0 by rw [← hF.out, drop_end (by rw [hl'.out]; exact Nat.le_refl _), hG0.out])
      go_wp2
      go_ret
      exact ⟨ret_i (by rw [hE'.out, if_neg hbig, hR.out]), hB⟩
/-- the fault that the last verdict on somebody tells -/
def faultV (v : List Vd) (s : ByteArray) : Int := v.foldl (fun f x => if x.who = s then x.fault else f) 0
def FaultM (D : DataW Unit) (v : List Vd) : Prop := Go.Maps.IsMap D ∧ ∀ s : ByteArray, D.atKey (.string s.data.toList) (.lit (.int .i64 0)) = .lit (.int .i64 (faultV v s))
theorem FaultM.nil : FaultM (.map []) [] := ⟨Go.Maps.isMap_empty, fun s => by rw [atKey_nil]; rfl⟩
theorem FaultM.snoc {D : DataW Unit} {v : List Vd} (h : FaultM D v) (x : Vd) : FaultM (D.put (.string x.who.data.toList) (.lit (.int .i64 x.fault))) (v ++ [x]) := by
  refine ⟨h.1.put _ _, fun t => ?_⟩
  have e : faultV (v ++ [x]) t = if x.who = t then x.fault else faultV v t := by unfold faultV; rw [List.foldl_append]; rfl
  rw [e]
  by_cases e2 : x.who = t
  · subst e2
    rw [Go.Maps.atKey_put_same h.1 (by trivial), if_pos rfl]
  · rw [Go.Maps.atKey_put_other (by intro e3; injection e3 with e3; exact e2 (bytes_inj e3).symm), h.2 t, if_neg e2]
theorem take_snocV {v : List Vd} {k : Nat} {x : Vd} (h : v[k]? = some x) : v.take (k + 1) = v.take k ++ [x] := by
  rw [List.take_add_one, h]; rfl
structure GB (w : World) (bm q : Nat) (D : DataW Unit) (d : Int) (base : Nat) (u1 u2 : Value) (g b : List Rk) (wx : World) : Prop where
  o1 : wx.ownsRow base 48 4 u1 g.length (g.flatMap rkE)
  o2 : wx.ownsRow base 48 4 u2 b.length (b.flatMap rkE)
  dis : Dis u1 u2
  m : MI wx bm q D
  h5 : wx.heap[w.heap.size]? = some (.cells #[.int .i64 d] 3 (0, 0))
  l1 : w.heap.size < bm
  l2 : bm < base
  l3 : base ≤ wx.heap.size
  bel : Below w.heap.size w wx
section
variable {w wx w' : World} {bm q base : Nat} {D : DataW Unit} {d : Int} {u1 u2 : Value} {g b : List Rk}
theorem GB.below (h : GB w bm q D d base u1 u2 g b wx) (B : Below wx.heap.size wx w') : GB w bm q D d base u1 u2 g b w' :=
  ⟨own_below h.o1 B, own_below h.o2 B, h.dis, h.m.kept (row := none) (grown_of_below B) (by simp), blk_below h.h5 B, h.l1, h.l2, Nat.le_trans h.l3 B.size, below_next h.bel B⟩
theorem GB.flip (h : GB w bm q D d base u1 u2 g b wx) : GB w bm q D d base u2 u1 b g wx := ⟨h.o2, h.o1, h.dis.symm, h.m, h.h5, h.l1, h.l2, h.l3, h.bel⟩
theorem GB.turn {v' : Value} {g' : List Rk} (h : GB w bm q D d base u1 u2 g b wx) (ho : w'.ownsRow base 48 4 v' g'.length (g'.flatMap rkE)) (hg : wx.grownBy w' u1.ownBlock) (hat : v'.ownBlock = u1.ownBlock ∨ ∃ p, v'.ownBlock = some p ∧ wx.heap.size ≤ p) : GB w bm q D d base v' u2 g' b w' := by
  have hb : ∀ i, u1.ownBlock = some i → base ≤ i := own_row_lt h.o1
  have hl1 := h.l1
  have hl2 := h.l2
  have hl3 := h.l3
  refine ⟨ho, h.o2.kept hg h.dis.ne, ?_, h.m.kept hg (fun e => by have := hb _ e.symm; omega), blk_grown h.h5 hg (fun e => by have := hb _ e.symm; omega), hl1, hl2, Nat.le_trans hl3 hg.size, below_own h.bel h.o1 hg h.bel.size (by omega)⟩
  intro i h1 h2
  rcases hat with e | ⟨p, e, hp⟩
  · exact h.dis i (e ▸ h1) h2
  · rw [e] at h1
    injection h1 with h1
    have := (h.o2.lt i h2).2
    omega
theorem GB.app1 {v' : Value} {x : Rk} (h : GB w bm q D d base u1 u2 g b wx) (ho : w'.ownsRow base 48 4 v' (g.length + 1) (g.flatMap rkE ++ rkE x)) (hg : wx.grownBy w' u1.ownBlock) (hat : v'.ownBlock = u1.ownBlock ∨ ∃ p, v'.ownBlock = some p ∧ wx.heap.size ≤ p) : GB w bm q D d base v' u2 (g ++ [x]) b w' :=
  h.turn (by rw [← flat_snoc, List.length_append]; exact ho) hg hat
theorem GB.app2 {v' : Value} {x : Rk} (h : GB w bm q D d base u1 u2 g b wx) (ho : w'.ownsRow base 48 4 v' (b.length + 1) (b.flatMap rkE ++ rkE x)) (hg : wx.grownBy w' u2.ownBlock) (hat : v'.ownBlock = u2.ownBlock ∨ ∃ p, v'.ownBlock = some p ∧ wx.heap.size ≤ p) : GB w bm q D d base u1 v' g (b ++ [x]) w' :=
  (h.flip.app1 ho hg hat).flip
theorem GB.set {gb n c k : Nat} {x : Rk} (h : GB w bm q D d base (.slice (some ⟨gb, 0, none⟩) n c) u2 g b wx) (hn : g.length = n) (hk : g[k]? = some x) (v : Int) : GB w bm q D d base (.slice (some ⟨gb, 0, none⟩) n c) u2 (g.set k ⟨x.who, v, x.time, x.fault⟩) b (wx.setCell ⟨gb, k * 4 + 1, none⟩ (.int .i64 v)) := by
  subst hn
  have h2 := h.o1.stored (k * 4 + 1) (.int .i64 v)
  rw [rk_set g k v x hk] at h2
  exact h.turn (by rw [List.length_set]; exact h2.1) h2.2 (.inl rfl)
end
theorem rkSortAny_c (d : Int) (l : List Rk) (w : World) (base n b5 : Nat) (u : Value) (hown : w.ownsRow base 48 4 u n (l.flatMap rkE)) (hn : n ≤ 19) (h5 : w.heap[b5]? = some (.cells #[.int .i64 d] 3 (0, 0))) (hd : 1 ≤ d) (hd2 : d ≤ 1000) (hw : ∀ x ∈ l, 0 ≤ x.time ∧ x.time ≤ 360000) :
    Calls Tryz.prog 54 #[u, .func (.func 103) #[] #[.pointer (some ⟨b5, 0, none⟩)]] w fun e w' => e = .returned (.tuple #[]) ∧ w'.ownsRow base 48 4 u n ((rkSorted d l).flatMap rkE) ∧ w.grownBy w' u.ownBlock := by
  obtain ⟨A, c, rfl⟩ := own_shape hown
  rcases Nat.eq_zero_or_pos n with h0 | hp
  · subst h0
    have hl : l = [] := List.eq_nil_of_length_eq_zero (own_len rkE_len (by decide) hown)
    subst hl
    refine (rkSort0_c A c _ w).mono ?_
    rintro e w' ⟨rfl, rfl⟩
    exact ⟨rfl, by unfold rkSorted; rw [insL_nil]; exact hown, grown_refl _ _⟩
  · obtain ⟨gb, rfl, _⟩ := own_someN hown hp
    exact rkSorted_c d l w base gb n c b5 hown hp hn h5 hd hd2 hw
def rankE (l : List Sd) (v : List Vd) : Int := if seedErr l ≠ 0 then seedErr l else verdErr v
def rankD (d : Int) (l : List Sd) (v : List Vd) : List Rk := if rankE l v = 0 then rankL d (faultV v) l else []
def RetRk (w : World) (E : Int) (L : List Rk) (e : Ending) (w' : World) : Prop := ∃ A' n' c', e = .returned (.tuple #[.slice A' n' c', .int .i64 E]) ∧ RRk w' A' n' L ∧ Below w.heap.size w w' ∧ (A' = none → c' = 0)
theorem good_at {f : ByteArray → Int} {l : List Sd} {k : Nat} {x : Sd} (h : l[k]? = some x) : goodL f (l.drop k) = if isGood f x then rkOf f x :: goodL f (l.drop (k + 1)) else goodL f (l.drop (k + 1)) := by
  rw [drop_at h]; unfold goodL; rw [List.filter_cons]; split <;> rfl
theorem bad_at {f : ByteArray → Int} {l : List Sd} {k : Nat} {x : Sd} (h : l[k]? = some x) : badL f (l.drop k) = if isGood f x then badL f (l.drop (k + 1)) else rkOf f x :: badL f (l.drop (k + 1)) := by
  rw [drop_at h]; unfold badL; rw [List.filter_cons]; cases isGood f x <;> rfl
theorem seedGo_ok : ∀ (l : List Sd) (seen : List ByteArray) (tw : Bool), seedGo seen tw l = 0 → ∀ x ∈ l, keyB x.who = true ∧ 0 ≤ x.time ∧ x.time ≤ 360000
  | [], _, _, _, x, hx => by cases hx
  | y :: l, seen, tw, h, x, hx => by
    unfold seedGo at h
    cases hk : keyB y.who
    · rw [hk] at h; simp at h
    · rw [hk, if_neg (by simp)] at h
      by_cases ht : 0 ≤ y.time ∧ y.time ≤ 360000
      · rw [if_neg (by simpa using ht)] at h
        rcases List.mem_cons.1 hx with rfl | hx
        · exact ⟨hk, ht⟩
        · exact seedGo_ok l _ _ h x hx
      · rw [if_pos ht] at h; simp at h
theorem seedErr_ok {l : List Sd} (h : seedErr l = 0) : l.length ≤ 300 ∧ ∀ x ∈ l, keyB x.who = true ∧ 0 ≤ x.time ∧ x.time ≤ 360000 := by
  unfold seedErr at h
  by_cases hb : 300 < l.length
  · rw [if_pos hb] at h; simp at h
  · rw [if_neg hb] at h; exact ⟨by omega, seedGo_ok l _ _ h⟩
theorem verdGo_ok : ∀ (l : List Vd) (p : Option ByteArray), verdGo p l = 0 → ∀ x ∈ l, keyB x.who = true ∧ 0 ≤ x.fault ∧ x.fault ≤ 8
  | [], _, _, x, hx => by cases hx
  | y :: l, p, h, x, hx => by
    unfold verdGo at h
    cases hk : keyB y.who
    · rw [hk] at h; simp at h
    · rw [hk, if_neg (by simp)] at h
      by_cases ht : 0 ≤ y.fault ∧ y.fault ≤ 8
      · rw [if_neg (by simpa using ht)] at h
        by_cases hl : leO y.who p = true
        · rw [if_pos hl] at h; simp at h
        · rw [if_neg hl] at h
          rcases List.mem_cons.1 hx with rfl | hx
          · exact ⟨hk, ht⟩
          · exact verdGo_ok l _ h x hx
      · rw [if_pos ht] at h; simp at h
theorem verdErr_ok {l : List Vd} (h : verdErr l = 0) : l.length ≤ 300 ∧ ∀ x ∈ l, keyB x.who = true ∧ 0 ≤ x.fault ∧ x.fault ≤ 8 := by
  unfold verdErr at h
  by_cases hb : 300 < l.length
  · rw [if_pos hb] at h; simp at h
  · rw [if_neg hb] at h; exact ⟨by omega, verdGo_ok l _ h⟩
set_option maxHeartbeats 6400000 in
set_option maxRecDepth 100000 in
theorem rank_c (A B : Option Addr) (n c m c2 : Nat) (l : List Sd) (v : List Vd) (d : Int) (w : World) (h : RSd w A n l) (hv : RVd w B m v) (hn : n ≤ 19) (hd : 1 ≤ d) (hd2 : d ≤ 1000) :
    Calls Tryz.prog 52 #[.slice A n c, .slice B m c2, .int .i64 d] w (RetRk w (rankE l v) (rankD d l v)) := by
  have hCs := Lib.hid (fun W h => checkSeeds_c A n c l W h)
  have hCv := Lib.hid (fun W h => checkVerdicts_c B m c2 v W h)
  have hb0 := heap_alloc_new w (.cells #[.int .i64 d] 3)
  have hB0 := below_new w (.cells #[.int .i64 d] 3)
  by_cases hs0 : seedErr l = 0
  rotate_left
  · have hE : rankE l v = seedErr l := if_pos hs0
    have hD : rankD d l v = [] := by unfold rankD; rw [if_neg (by rw [hE]; exact hs0)]
    rw [hE, hD]
    have ht : (seedErr l != 0) = true := by simpa using hs0
    clear hE hD hs0 hCv
    generalize seedErr l = E at *
    go_enter Tryz.func52, Tryz.ntmps52
    go_wp2_with fail
    refine (hCs.out _ (h.alloc _)).mono ?_; rintro e w1 ⟨rfl, B1⟩
    have hB1 := below_next hB0 B1
    clear hb0 hB0 B1 hCs
    go_wp2
    go_ret2
    exact ⟨none, 0, 0, rfl, RN.nil_ _ _ _ _ _, hB1, fun _ => rfl⟩
  by_cases hv0 : verdErr v = 0
  rotate_left
  · have hE : rankE l v = verdErr v := if_neg (by simpa using hs0)
    have hD : rankD d l v = [] := by unfold rankD; rw [if_neg (by rw [hE]; exact hv0)]
    rw [hE, hD]
    have ht : (verdErr v != 0) = true := by simpa using hv0
    rw [hs0] at hCs
    clear hE hD hv0 hs0
    generalize verdErr v = E at *
    go_enter Tryz.func52, Tryz.ntmps52
    go_wp2_with fail
    refine (hCs.out _ (h.alloc _)).mono ?_; rintro e w1 ⟨rfl, B1⟩
    have hB1 := below_next hB0 B1
    clear hb0 hB0 B1 hCs
    go_wp2_with fail
    refine (hCv.out _ (hv.below hB1)).mono ?_; rintro e w2 ⟨rfl, B2⟩
    have hB2 := below_next hB1 B2
    clear hB1 B2 hCv
    go_wp2
    go_ret2
    exact ⟨none, 0, 0, rfl, RN.nil_ _ _ _ _ _, hB2, fun _ => rfl⟩
  have hE : rankE l v = 0 := by unfold rankE; rw [if_neg (by simpa using hs0)]; exact hv0
  have hD : rankD d l v = rankL d (faultV v) l := if_pos hE
  rw [hE, hD]
  rw [hs0] at hCs
  rw [hv0] at hCv
  obtain ⟨hll, hso⟩ := seedErr_ok hs0
  obtain ⟨hvl, hvo⟩ := verdErr_ok hv0
  have hsk := Lib.hid (fun x hx => (key_small (hso x hx).1).2)
  have hst := Lib.hid (fun x hx => (hso x hx).2)
  have hvk := Lib.hid (fun x hx => (key_small (hvo x hx).1).2)
  have hvf := Lib.hid (fun x hx => (hvo x hx).2)
  have hm3 : m ≤ 300 := by rw [hv.len] at hvl; exact hvl
  have hlv := Lib.hid hv.len
  have hll' := Lib.hid h.len
  have hRL : Hid (rankL d (faultV v) l = rnkF d (rkSorted d (goodL (faultV v) l)) 0 none ++ badL (faultV v) l) := Lib.hid rfl
  generalize rankL d (faultV v) l = RL at *
  clear hE hD hs0 hv0 hll hso hvl hvo
  have hmm := @run_makeMap Tryz.prog
  go_enter Tryz.func52, Tryz.ntmps52
  go_wp2_with fail
  refine (hCs.out _ (h.alloc _)).mono ?_; rintro e w1 ⟨rfl, B1⟩
  have hB1 := below_next hB0 B1
  have hb1 := blk_below hb0 B1
  clear hb0 hB0 B1 hCs
  go_wp2_with fail
  refine (hCv.out _ (hv.below hB1)).mono ?_; rintro e w2 ⟨rfl, B2⟩
  have hB2 := below_next hB1 B2
  have hb2 := blk_below hb1 B2
  have hbl := lt_of_heap hb2
  have hm0 := mi_new w2
  have hB3 := hB2.alloc hB2.size (.map #[] 0)
  have hb3 := blk_alloc hb2 (.map #[] 0)
  have hz3 : (w2.alloc (.map #[] 0)).heap.size = w2.heap.size + 1 := alloc_size _ _
  clear hb1 hB1 B2 hCv hb2 hB2
  go_wp2_with fail
  generalize w2.alloc (.map #[] 0) = w3 at *
  generalize w2.heap.size = bm at *
  go_loopw [32] (fun i wr => ∃ (k q : Nat) (D : DataW Unit), k ≤ m ∧ i = .int .i64 k ∧ q ≤ k ∧ MI wr bm q D ∧ Hid (FaultM D (v.take k)) ∧ Below w.heap.size w wr ∧ wr.heap[w.heap.size]? = some (.cells #[.int .i64 d] 3 (0, 0)) ∧ bm + 1 ≤ wr.heap.size) (fun i _ => m - (intOf i).toNat)
  case atStart => exact ⟨0, 0, .map [], Nat.zero_le _, rfl, Nat.le_refl _, hm0, Lib.hid FaultM.nil, hB3, hb3, by omega⟩
  case round =>
    clear hm0 hB3 hb3 hz3
    obtain ⟨k, q, D, hk, rfl, hq, hmi, hFM, hB, h5, hzz⟩ := hrel
    by_cases hlt : k < m
    · obtain ⟨b, off, x, rfl, hbl2, hx, c0, c1, c2'⟩ := RVd_at3 (hv.below hB) hlt
      have hT := Lib.hid (show FaultM (D.put (.string x.who.data.toList) (.lit (.int .i64 x.fault))) (v.take (k + 1)) by rw [take_snocV hx]; exact hFM.out.snoc x)
      have hsz := hvk.out x (List.mem_of_getElem? hx)
      have hfb := hvf.out x (List.mem_of_getElem? hx)
      obtain ⟨who, fault, xA, xn, xc⟩ := x
      dsimp only at *
      clear hx
      have hn0 := heap_alloc_new wr (.cells #[.string who, .int .i64 fault, .slice xA xn xc] 98)
      have hm1 : MI (wr.alloc (.cells #[.string who, .int .i64 fault, .slice xA xn xc] 98)) bm q D := hmi.alloc _
      have hB4 := hB.alloc hB.size (.cells #[.string who, .int .i64 fault, .slice xA xn xc] 98)
      have h54 := blk_alloc h5 (.cells #[.string who, .int .i64 fault, .slice xA xn xc] 98)
      have hz4 : (wr.alloc (.cells #[.string who, .int .i64 fault, .slice xA xn xc] 98)).heap.size = wr.heap.size + 1 := alloc_size _ _
      have z0 := (blk_facts hn0).1 0
      have z1 := (blk_facts hn0).1 1
      clear hn0 hmi
      go_wp2_with (at_mapUpdate; refine wpList_mapUpdate_own _ rfl _ _ _ 106 rfl 9 3 (string_keyed Tryz.underlying9) Tryz.underlying106 _ _ q _ rfl hm1 (by unfold maxLen; omega) _ _ _ rfl rfl (keyOf_string_mk Tryz.underlying9 (by unfold maxLen; omega)) _ [] (plainElem_int Tryz.underlying3 (by simp [Lit.wf, IntKind.min, IntKind.max, IntKind.signed, IntKind.bits]; omega)) ?_; intro w5 hown5 hg5)
      have hB5 := hB4.trans (grown_below hg5 (by omega) hB4.size)
      have h55 := blk_grown h54 hg5 (fun e => by injection e with e; omega)
      have hz5 := hg5.size
      clear hm1 hB4 h54 hB h5 z0 z1
      go_roundw
      case rel => exact ⟨k + 1, q + 1, _, by omega, by go_num, by omega, hown5, hT, hB5, h55, by omega⟩
      case measure => simp [intOf]; omega
    · obtain rfl : k = m := by omega
      have hFM' : Hid (FaultM D v) := by
        have h9 := hFM.out
        rw [List.take_of_length_le (by rw [hlv.out]; exact Nat.le_refl _)] at h9
        exact Lib.hid h9
      have K0 : GB w bm q D d (bm + 1) (.slice none 0 0) (.slice none 0 0) [] [] wr := ⟨World.ownsRow_nil _ _ _ _, World.ownsRow_nil _ _ _ _, (fun i h1 _ => by simp [Value.ownBlock] at h1), hmi, h5, hbl, Nat.lt_succ_self _, hzz, hB⟩
      clear hFM hmi h5 hB hvk hvf hv
      generalize hF : faultV v = F at *
      have hF' := Lib.hid hF
      have hlk := Lib.hid (fun W (h : MI W bm q D) s (hs : s.size ≤ 40) => show (Instr.lookup 106 (.map (some bm)) (.string s) false).run Tryz.prog W = .ok (.int .i64 (F s)) W by
        obtain ⟨fv, hrun, hat⟩ := mi_lookup h s (by unfold maxLen; omega)
        rw [hFM'.out.2 s, hF'.out] at hat
        injection hat with e
        injection e with _ e
        rw [e]
        exact hrun)
      clear hF hFM'
      go_wp2_with fail
      go_loopw [13, 14, 44] (fun u1 u2 i wr => ∃ (k : Nat) (G Bd : List Rk), k ≤ n ∧ i = .int .i64 k ∧ GB w bm q D d (bm + 1) u1 u2 G Bd wr ∧ G.length ≤ k ∧ Bd.length ≤ k ∧ Hid (G ++ goodL F (l.drop k) = goodL F l) ∧ Hid (Bd ++ badL F (l.drop k) = badL F l)) (fun _ _ i _ => n - (intOf i).toNat)
      case atStart => exact ⟨0, [], [], Nat.zero_le _, rfl, K0, Nat.le_refl _, Nat.le_refl _, Lib.hid rfl, Lib.hid rfl⟩
      case round =>
        clear K0
        rename World => wr
        obtain ⟨k, G, Bd, hk, rfl, K, hgl, hbd, hG, hBd⟩ := hrel
        by_cases hlt : k < n
        · obtain ⟨b, off, x, rfl, hbl2, hx, c0, c1⟩ := RSd_at2 (h.below K.bel) hlt
          have hGa := Lib.hid (good_at (f := F) hx)
          have hBa := Lib.hid (bad_at (f := F) hx)
          have hsz := hsk.out x (List.mem_of_getElem? hx)
          have htb := hst.out x (List.mem_of_getElem? hx)
          have hgd : Hid (isGood F x = (decide (F x.who = 0) && decide (0 < x.time))) := Lib.hid rfl
          have hro : Hid (rkOf F x = ⟨x.who, 0, x.time, F x.who⟩) := Lib.hid rfl
          generalize isGood F x = gd at *
          generalize rkOf F x = rx at *
          obtain ⟨who, time⟩ := x
          dsimp only at *
          clear hx
          have K5 := K.below (below_new wr (.cells #[.string who, .int .i64 time] 40))
          have hrun := hlk.out _ K5.m who hsz
          generalize hfv : F who = fv at *
          have z0 := (blk_facts (heap_alloc_new wr (.cells #[.string who, .int .i64 time] 40))).1 0
          have z1 := (blk_facts (heap_alloc_new wr (.cells #[.string who, .int .i64 time] 40))).1 1
          have hn6 := heap_alloc_new (wr.alloc (.cells #[.string who, .int .i64 time] 40)) (.cells #[.string who, .int .i64 0, .int .i64 time, .int .i64 fv] 48)
          rw [alloc_size] at hn6
          have K6 := K5.below (below_new _ (.cells #[.string who, .int .i64 0, .int .i64 time, .int .i64 fv] 48))
          have hz6 := K6.l3
          have y0 := (blk_facts hn6).1 0
          have y1 := (blk_facts hn6).1 1
          have y2 := (blk_facts hn6).1 2
          have y3 := (blk_facts hn6).1 3
          clear hfv K5 K hn6
          by_cases hg : fv = 0 ∧ 0 < time
          · have hgd1 : gd = true := by rw [hgd.out]; simp [hg]
            have hN := Lib.hid (show (G ++ [⟨who, 0, time, fv⟩]) ++ goodL F (l.drop (k + 1)) = goodL F l by rw [← hG.out, hGa.out, hgd1, if_pos rfl, hro.out]; simp)
            have hN2 := Lib.hid (show Bd ++ badL F (l.drop (k + 1)) = badL F l by rw [← hBd.out, hBa.out, hgd1, if_pos rfl])
            obtain ⟨hg1, hg2⟩ := hg
            clear hG hBd hGa hBa hgd hro hgd1
            subst hg1
            go_wp2_with (at_builtin; refine wpList_appAt rfl (.tmp 65) (.tmp 67) 34 rfl Tryz.underlying34 info_ranked rfl (by omega) (by omega) K6.o1 rfl rfl (by first | rfl | (simp; done)) (by rfl) (by simp [Value.oneCell']) (by omega) hz6 ?_; intro v7 w7 ho7 hg7 hat7)
            have K7 := K6.app1 (x := ⟨who, 0, time, 0⟩) ho7 hg7 hat7
            clear ho7 hg7 hat7 K6 z0 z1 y0 y1 y2 y3 hrun hz6
            go_roundw
            case rel => exact ⟨k + 1, _, _, by omega, by go_num, K7, by simp; omega, by omega, hN, hN2⟩
            case measure => simp [intOf]; omega
          · have hgd1 : gd = false := by rw [hgd.out]; simp only [Bool.and_eq_false_iff, decide_eq_false_iff_not]; omega
            have hN := Lib.hid (show G ++ goodL F (l.drop (k + 1)) = goodL F l by rw [← hG.out, hGa.out, hgd1, if_neg (by simp)])
            have hN2 := Lib.hid (show (Bd ++ [⟨who, 0, time, fv⟩]) ++ badL F (l.drop (k + 1)) = badL F l by rw [← hBd.out, hBa.out, hgd1, if_neg (by simp), hro.out]; simp)
            clear hG hBd hGa hBa hgd hro hgd1
            by_cases hg1 : fv = 0
            · have hg2 : ¬ 0 < time := fun e => hg ⟨hg1, e⟩
              obtain rfl : time = 0 := by omega
              clear hg hg2
              subst hg1
              go_wp2_with (at_builtin; refine wpList_appAt rfl (.tmp 69) (.tmp 71) 34 rfl Tryz.underlying34 info_ranked rfl (by omega) (by omega) K6.o2 rfl rfl (by first | rfl | (simp; done)) (by rfl) (by simp [Value.oneCell']) (by omega) hz6 ?_; intro v7 w7 ho7 hg7 hat7)
              have K7 := K6.app2 (x := ⟨who, 0, 0, 0⟩) ho7 hg7 hat7
              clear ho7 hg7 hat7 K6 z0 z1 y0 y1 y2 y3 hrun hz6
              go_roundw
              case rel => exact ⟨k + 1, _, _, by omega, by go_num, K7, by omega, by simp; omega, hN, hN2⟩
              case measure => simp [intOf]; omega
            · have hg3 : (fv == 0) = false := beq_eq_false_iff_ne.2 hg1
              clear hg hg1
              go_wp2_with (at_builtin; refine wpList_appAt rfl (.tmp 69) (.tmp 71) 34 rfl Tryz.underlying34 info_ranked rfl (by omega) (by omega) K6.o2 rfl rfl (by first | rfl | (simp; done)) (by rfl) (by simp [Value.oneCell']) (by omega) hz6 ?_; intro v7 w7 ho7 hg7 hat7)
              have K7 := K6.app2 (x := ⟨who, 0, time, fv⟩) ho7 hg7 hat7
              clear ho7 hg7 hat7 K6 z0 z1 y0 y1 y2 y3 hrun hz6
              go_roundw
              case rel => exact ⟨k + 1, _, _, by omega, by go_num, K7, by omega, by simp; omega, hN, hN2⟩
              case measure => simp [intOf]; omega
        · obtain rfl : k = n := by omega
          have hGf : G = goodL F l := by have := hG.out; rw [drop_end (by rw [hll'.out]; exact Nat.le_refl _)] at this; simpa [goodL] using this
          have hBf : Bd = badL F l := by have := hBd.out; rw [drop_end (by rw [hll'.out]; exact Nat.le_refl _)] at this; simpa [badL] using this
          have hSt : ∀ x ∈ G, 0 ≤ x.time ∧ x.time ≤ 360000 := fun x hx => by
            rw [hGf] at hx
            unfold goodL at hx
            obtain ⟨y, hy, rfl⟩ := List.mem_map.1 hx
            exact hst.out y ((List.mem_filter.1 hy).1)
          obtain ⟨A1, c1, rfl⟩ := own_shape K.o1
          obtain ⟨A2, c2', rfl⟩ := own_shape K.o2
          have hSo := Lib.hid (rkSortAny_c d G wr (bm + 1) G.length w.heap.size _ K.o1 (by omega) K.h5 hd hd2 hSt)
          have hRL2 : Hid (rnkF d (rkSorted d G) 0 none ++ Bd = RL) := Lib.hid (by rw [hRL.out, ← hGf, ← hBf])
          have hSl : (rkSorted d G).length = G.length := insL_len _ _
          have hSt2 : ∀ x ∈ rkSorted d G, 0 ≤ x.time ∧ x.time ≤ 360000 := fun x hx => hSt x ((rk_perm d G).mem_iff.1 hx)
          generalize hN : G.length = N at *
          generalize hm2 : Bd.length = m2 at *
          have hm2' := Lib.hid hm2
          clear hG hBd hGf hBf hSt hst hsk hlk h hRL hN hm2
          go_wp2_with fail
          refine hSo.out.mono ?_; rintro e w7 ⟨rfl, ho7, hg7⟩
          generalize rkSorted d G = S at *
          have K7 : GB w bm q D d (bm + 1) (.slice A1 N c1) (.slice A2 m2 c2') (midR d S 0) Bd w7 := K.turn (by rw [midR_zero, hSl]; exact ho7) hg7 (.inl rfl)
          have hSt3 := Lib.hid hSt2
          have hSl' := Lib.hid hSl
          clear hSo ho7 hg7 K hSt2 hSl
          go_wp2_with fail
          go_loopw [79] (fun i wr => ∃ k2 : Nat, k2 ≤ N ∧ i = .int .i64 k2 ∧ GB w bm q D d (bm + 1) (.slice A1 N c1) (.slice A2 m2 c2') (midR d S k2) Bd wr) (fun i _ => N - (intOf i).toNat)
          case atStart => exact ⟨0, Nat.zero_le _, rfl, K7⟩
          case round =>
            clear K7
            rename World => wr
            obtain ⟨k2, hk2, rfl, K⟩ := hrel
            have hml : (midR d S k2).length = N := by rw [midR_len (by rw [hSl'.out]; exact hk2)]; exact hSl'.out
            have ho : wr.ownsRow (bm + 1) 48 4 (.slice A1 N c1) N ((midR d S k2).flatMap rkE) := by have h9 := K.o1; rw [hml] at h9; exact h9
            by_cases hlt : k2 < N
            · obtain ⟨gb, rfl, hgb⟩ := own_someN ho (by omega)
              have hRR : RRk wr (some ⟨gb, 0, none⟩) N (midR d S k2) := RN.of_own rkE_len ho hml (by omega)
              obtain ⟨b', o', x', hA, hbl3, hx', d0, d1, d2, d3⟩ := RRk.at4 hRR hlt
              injection hA with hA
              injection hA with q1 q2
              subst q1 q2
              obtain ⟨x, hx⟩ := at_of_lt (l := S) (k := k2) (by rw [hSl'.out]; exact hlt)
              rw [midR_at hx] at hx'
              injection hx' with hx'
              subst hx'
              have hxt := hSt3.out x (List.mem_of_getElem? hx)
              obtain ⟨q', hq1, hq2⟩ := rnkF_at S 0 none k2 x hx
              have f1 := ho.frozenAt (k2 * 4 + 1)
              have h5c := (blk_facts K.h5).1 0
              have hne : (d == 0) = false := beq_eq_false_iff_ne.2 (by omega)
              rw [Nat.zero_add] at d0 d1 d2 d3
              by_cases hk0 : k2 = 0
              · have hqv : q' = (k2 : Int) + 1 := by rw [hq2, if_pos hk0]; show ((0 + k2 : Nat) : Int) + 1 = _; rw [Nat.zero_add]
                subst hqv
                have e7 : decide (0 < k2) = false := decide_eq_false (by omega)
                have e8 : decide ((0 : Int) < (k2 : Int)) = false := decide_eq_false (by omega)
                have K4 := Lib.hid (show GB w bm q D d (bm + 1) (.slice (some ⟨gb, 0, none⟩) N c1) (.slice A2 m2 c2') (midR d S (k2 + 1)) Bd (wr.setCell ⟨gb, k2 * 4 + 1, none⟩ (.int .i64 ((k2 : Int) + 1))) by rw [← midR_set hx hq1]; exact K.set hml (midR_at hx) ((k2 : Int) + 1))
                clear K
                clear hq2 hk0 hRR ho hq1 hx hml
                go_wp2
                go_quiet (fail)
                clear e7 e8
                go_wp2
                go_roundw
                case rel => exact ⟨k2 + 1, by omega, by go_num, K4.out.below (below_drewN (Below.refl _ _) _)⟩
                case measure => simp [intOf]; omega
              · obtain ⟨b2, o2, y, hA2, _, hy, y0, y1, y2, y3⟩ := RRk.at4 hRR (k := k2 - 1) (by omega)
                injection hA2 with hA2
                injection hA2 with q1 q2
                subst q1 q2
                rw [midR_prev (by omega) (by rw [hSl'.out]; exact hk2)] at hy
                rw [Nat.zero_add] at y0 y1 y2 y3
                have hqv : q' = if x.time / d = y.time / d then y.rank else (k2 : Int) + 1 := by
                  rw [hq2, if_neg hk0, Nat.zero_add]
                  unfold prevR
                  have hy' : (rnkF d S ((0 : Nat) : Int) none)[k2 - 1]? = some y := hy
                  rw [if_neg hk0, hy']
                  rfl
                have hyt : 0 ≤ y.time ∧ y.time ≤ 360000 := by
                  obtain ⟨z, hz⟩ := at_of_lt (l := S) (k := k2 - 1) (by rw [hSl'.out]; omega)
                  obtain ⟨q3, h3, _⟩ := rnkF_at (d := d) S 0 none (k2 - 1) z hz
                  have hy' : (rnkF d S ((0 : Nat) : Int) none)[k2 - 1]? = some y := hy
                  rw [hy'] at h3
                  injection h3 with h3
                  rw [h3]
                  exact hSt3.out z (List.mem_of_getElem? hz)
                have w1 : IntKind.i64.wrap ((k2 : Int) - 1) = (k2 : Int) - 1 := IntWalk.i64_in _ (by omega)
                have w2 : 0 ≤ (k2 : Int) - 1 := by omega
                have w3 : ((k2 : Int) - 1).toNat = k2 - 1 := by omega
                have w4 : (k2 : Int) - 1 < N := by omega
                have w5 : (1 : Int) ≤ (k2 : Int) := by omega
                have e7 : decide (0 < k2) = true := decide_eq_true (by omega)
                have e8 : decide ((0 : Int) < (k2 : Int)) = true := decide_eq_true (by omega)
                by_cases he : x.time / d = y.time / d
                · rw [if_pos he] at hqv
                  subst hqv
                  have K4 := Lib.hid (show GB w bm q D d (bm + 1) (.slice (some ⟨gb, 0, none⟩) N c1) (.slice A2 m2 c2') (midR d S (k2 + 1)) Bd (wr.setCell ⟨gb, k2 * 4 + 1, none⟩ (.int .i64 y.rank)) by rw [← midR_set hx hq1]; exact K.set hml (midR_at hx) y.rank)
                  clear K
                  have he' : (x.time / d == y.time / d) = true := by simpa using he
                  clear hq2 hk0 hRR ho hq1 hx hml hy he
                  obtain ⟨xw, xr, xt, xf⟩ := x
                  obtain ⟨yw, yr, yt, yf⟩ := y
                  dsimp only at *
                  go_wp2
                  go_quiet (fail)
                  go_wp2
                  go_roundw
                  case rel => exact ⟨k2 + 1, by omega, by go_num, K4.out.below (below_drewN (Below.refl _ _) _)⟩
                  case measure => simp [intOf]; omega
                · rw [if_neg he] at hqv
                  subst hqv
                  have K4 := Lib.hid (show GB w bm q D d (bm + 1) (.slice (some ⟨gb, 0, none⟩) N c1) (.slice A2 m2 c2') (midR d S (k2 + 1)) Bd (wr.setCell ⟨gb, k2 * 4 + 1, none⟩ (.int .i64 ((k2 : Int) + 1))) by rw [← midR_set hx hq1]; exact K.set hml (midR_at hx) ((k2 : Int) + 1))
                  clear K
                  have he' : (x.time / d == y.time / d) = false := beq_eq_false_iff_ne.2 he
                  clear hq2 hk0 hRR ho hq1 hx hml hy he
                  obtain ⟨xw, xr, xt, xf⟩ := x
                  obtain ⟨yw, yr, yt, yf⟩ := y
                  dsimp only at *
                  go_wp2
                  go_quiet (fail)
                  clear e7 e8 w1 w2 w3 w4 w5
                  go_wp2
                  go_roundw
                  case rel => exact ⟨k2 + 1, by omega, by go_num, K4.out.below (below_drewN (Below.refl _ _) _)⟩
                  case measure => simp [intOf]; omega
            · obtain rfl : k2 = N := by omega
              have hmA : midR d S k2 = rnkF d S 0 none := by rw [← hSl'.out]; exact midR_all d S
              have hR1 : Bd.length = m2 := hm2'.out
              have ho2 := K.o2
              rw [hR1] at ho2
              have hA2 : A2 = none → c2' = 0 := fun e => by
                rcases ho2.2 with ⟨h9, _⟩ | ⟨g9, cap, cur, hv9, _⟩
                · injection h9
                · injection hv9 with hv9; rw [e] at hv9; cases hv9
              have hr2 : 0 < m2 → ∃ b off, A2 = some ⟨b, off, none⟩ ∧ ∀ j u, (Bd.flatMap rkE)[j]? = some u → wr.cell? ⟨b, off + j, none⟩ = some u := fun hp => by
                obtain ⟨g9, e9, _⟩ := own_someN ho2 hp
                refine ⟨g9, 0, e9, fun j u hu => ?_⟩
                subst e9
                rw [Nat.zero_add, ho2.cellAt j (by have := lt_of_at hu; rw [← ho2.1]; exact this)]
                exact hu
              have hfl : (Bd.flatMap rkE).length = m2 * 4 := by rw [flat_len rkE_len, hR1]
              have hoc : ∀ u ∈ Bd.flatMap rkE, u.oneCell' = true := fun u hu => by
                obtain ⟨y, hy, hu2⟩ := List.mem_flatMap.1 hu
                simp [rkE] at hu2
                rcases hu2 with rfl | rfl | rfl | rfl <;> rfl
              have hz := K.l3
              have hBel := K.bel
              have hl12 : w.heap.size ≤ bm + 1 := by have := K.l1; omega
              clear hSt3 hSl' K ho2 hm2' hR1 hmm
              rw [hmA] at ho
              clear hmA
              go_wp2_with (at_builtin; refine wpList_appR rfl (.tmp 119) (.tmp 120) 34 rfl Tryz.underlying34 info_ranked rfl (by omega) (by omega) ho rfl hA2 hr2 rfl hfl hoc (by omega) hz ?_; intro v9 w9 ho9 hg9)
              have hB9 := below_own hBel ho hg9 hBel.size hl12
              have hA9 := Lib.hid (fun A9 c9 (e : v9 = .slice A9 (k2 + m2) c9) (e2 : A9 = none) => show c9 = 0 by
                rcases ho9.2 with ⟨h9, _⟩ | ⟨g9, cap, cur, hv9, _⟩
                · rw [e] at h9; injection h9
                · rw [e] at hv9; injection hv9 with hv9; rw [e2] at hv9; cases hv9)
              obtain ⟨A9, c9, rfl⟩ := own_shape ho9
              have hA9' := Lib.hid (hA9.out A9 c9 rfl)
              clear hA9
              rw [← List.flatMap_append, hRL2.out] at ho9
              have hLen := own_len rkE_len (by decide) ho9
              have hRf : RRk w9 A9 (k2 + m2) RL := RN.of_own rkE_len ho9 hLen (by omega)
              clear ho9 hg9 ho hBel hz hA2 hr2 hfl hoc
              go_wp2
              go_ret2
              exact ⟨A9, k2 + m2, c9, rfl, hRf, hB9, hA9'.out⟩
end Go.Proofs.YtnkhdofcmanipaaGreatDoor

/- Ranks without verdicts: plain. -/
namespace Go.Proofs.YtnkhdofcmanipaaGreatDoor
open Go.RowKit Go.Shelf Go.Lib Go.Sort
set_option linter.unusedVariables false

end Go.Proofs.YtnkhdofcmanipaaGreatDoor
