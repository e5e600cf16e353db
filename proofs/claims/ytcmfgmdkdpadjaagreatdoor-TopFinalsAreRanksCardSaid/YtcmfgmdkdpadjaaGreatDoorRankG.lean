/- judge.rank: seeds ranked by their times, verdicts told by a map; plain functions and the walk of its sort. -/
import Derived.Test.YtcmfgmdkdpadjaaGreatDoorSortR
import Derived.Test.YtcmfgmdkdpadjaaGreatDoorSeedC
import Derived.Test.YtcmfgmdkdpadjaaGreatDoorSortSt
import Derived.Test.YtcmfgmdkdpadjaaGreatDoorEqRk
import Derived.Test.YtcmfgmdkdpadjaaGreatDoorApp2
import Derived.BigGuardPart
namespace Go.Proofs.YtcmfgmdkdpadjaaGreatDoor
open Go.RowKit Go.Shelf Go.Lib Go.Sort
set_option linter.unusedVariables false

instance : Inhabited Rk := ⟨⟨⟨#[]⟩, 0, 0, 0⟩⟩
def rkOf (f : ByteArray → Int) (x : Sd) : Rk := ⟨x.who, 0, x.time, f x.who⟩
def isGood (f : ByteArray → Int) (x : Sd) : Bool := decide (f x.who = 0) && decide (0 < x.time)
def goodL (f : ByteArray → Int) (l : List Sd) : List Rk := (l.filter (isGood f)).map (rkOf f)
def badL (f : ByteArray → Int) (l : List Sd) : List Rk := (l.filter fun x => !isGood f x).map (rkOf f)
def rkCf (d : Int) (x y : Rk) : Int := x.time / d - y.time / d
def rkSorted (d : Int) (l : List Rk) : List Rk := insL (ltOf (rkCf d)) l
/-- the ranks, one after the other: p the time and the rank ahead -/
def rnkF (d : Int) : List Rk → Int → Option (Int × Int) → List Rk
  | [], _, _ => []
  | x :: r, i, p =>
    let q := match p with
      | some (t, k) => if x.time / d = t then k else i + 1
      | none => i + 1
    ⟨x.who, q, x.time, x.fault⟩ :: rnkF d r (i + 1) (some (x.time / d, q))
def rankL (d : Int) (f : ByteArray → Int) (l : List Sd) : List Rk := rnkF d (rkSorted d (goodL f l)) 0 none ++ badL f l
theorem rnkF_len (d : Int) : ∀ (l : List Rk) (i : Int) (p : Option (Int × Int)), (rnkF d l i p).length = l.length
  | [], _, _ => rfl
  | x :: r, i, p => by unfold rnkF; simp only [List.length_cons]; rw [rnkF_len]
/-- what stands ahead of number k of the ranks -/
def prevR (d : Int) (R : List Rk) (k : Nat) : Option (Int × Int) := if k = 0 then none else (R[k - 1]?).map fun y => (y.time / d, y.rank)
def nextR (d : Int) (x : Rk) (k : Nat) (p : Option (Int × Int)) : Int := match p with
  | some (t, q) => if x.time / d = t then q else (k : Int) + 1
  | none => (k : Int) + 1
theorem rnkF_at {d : Int} : ∀ (l : List Rk) (i : Nat) (p : Option (Int × Int)) (k : Nat) (x : Rk), l[k]? = some x → ∃ q, (rnkF d l i p)[k]? = some ⟨x.who, q, x.time, x.fault⟩ ∧ q = nextR d x (i + k) (if k = 0 then p else prevR d (rnkF d l i p) k)
  | [], _, _, _, _, h => by simp at h
  | y :: r, i, p, 0, x, h => by
    obtain rfl : y = x := by simpa using h
    refine ⟨_, rfl, ?_⟩
    rw [if_pos rfl]
    unfold nextR
    cases p <;> rfl
  | y :: r, i, p, k + 1, x, h => by
    have h' : r[k]? = some x := by simpa using h
    obtain ⟨q, h1, h2⟩ := rnkF_at r (i + 1) (some (y.time / d, nextR d y i p)) k x h'
    have e0 : rnkF d (y :: r) i p = ⟨y.who, nextR d y i p, y.time, y.fault⟩ :: rnkF d r ((i + 1 : Nat) : Int) (some (y.time / d, nextR d y i p)) := by
      rw [show ((i + 1 : Nat) : Int) = (i : Int) + 1 by push_cast; rfl]
      cases p <;> rfl
    refine ⟨q, by rw [e0]; exact h1, ?_⟩
    rw [h2, if_neg (show ¬ k + 1 = 0 by omega)]
    have e1 : (if k = 0 then some (y.time / d, nextR d y i p) else prevR d (rnkF d r ((i + 1 : Nat) : Int) (some (y.time / d, nextR d y i p))) k) = prevR d (rnkF d (y :: r) i p) (k + 1) := by
      unfold prevR
      rw [if_neg (by omega : ¬ k + 1 = 0), e0]
      by_cases hk : k = 0
      · subst hk; simp
      · rw [if_neg hk]
        show _ = Option.map _ ((_ :: rnkF d r ((i + 1 : Nat) : Int) _)[k]?)
        obtain ⟨j, rfl⟩ : ∃ j, k = j + 1 := ⟨k - 1, by omega⟩
        rfl
    rw [e1, show i + 1 + k = i + (k + 1) by omega]
/-- the row while the ranks are written: the first k are done -/
def midR (d : Int) (S : List Rk) (k : Nat) : List Rk := (rnkF d S 0 none).take k ++ S.drop k
theorem midR_at {d : Int} {S : List Rk} {k : Nat} {x : Rk} (h : S[k]? = some x) : (midR d S k)[k]? = some x := by
  have hk := lt_of_at h
  unfold midR
  rw [List.getElem?_append_right (by rw [List.length_take]; omega), List.length_take, rnkF_len, Nat.min_eq_left (by omega), Nat.sub_self, List.getElem?_drop]
  exact h
theorem midR_prev {d : Int} {S : List Rk} {k j : Nat} (hj : j < k) (hk : k ≤ S.length) : (midR d S k)[j]? = (rnkF d S 0 none)[j]? := by
  unfold midR
  rw [List.getElem?_append_left (by rw [List.length_take, rnkF_len]; omega), List.getElem?_take, if_pos hj]
theorem midR_set {d : Int} {S : List Rk} {k : Nat} {x y : Rk} (h : S[k]? = some x) (hy : (rnkF d S 0 none)[k]? = some y) : (midR d S k).set k y = midR d S (k + 1) := by
  have hk := lt_of_at h
  apply List.ext_getElem?
  intro j
  rw [List.getElem?_set]
  have hl : (midR d S k).length = S.length := by unfold midR; rw [List.length_append, List.length_take, rnkF_len, List.length_drop]; omega
  by_cases e : k = j
  · subst e
    rw [if_pos rfl, if_pos (by omega), midR_prev (by omega) (by omega), hy]
  · rw [if_neg e]
    rcases Nat.lt_or_ge j k with hj | hj
    · rw [midR_prev hj (by omega), midR_prev (by omega) (by omega)]
    · unfold midR
      rw [List.getElem?_append_right (by rw [List.length_take]; omega), List.getElem?_append_right (by rw [List.length_take]; omega), List.length_take, List.length_take, rnkF_len, List.getElem?_drop, List.getElem?_drop]
      congr 1
      omega
theorem midR_len {d : Int} {S : List Rk} {k : Nat} (h : k ≤ S.length) : (midR d S k).length = S.length := by unfold midR; rw [List.length_append, List.length_take, rnkF_len, List.length_drop]; omega
theorem rkSWO (d : Int) : SWO (ltOf (rkCf d)) := by
  refine ⟨fun x => ?_, fun x y z h1 h2 => ?_, fun x y z h1 h2 => ?_⟩
  · unfold ltOf rkCf; simp
  · unfold ltOf rkCf at *; simp at *; omega
  · unfold ltOf rkCf at *; simp at *; omega
theorem rk_perm (d : Int) (l : List Rk) : (rkSorted d l).Perm l := (insL_spec (rkSWO d) l).1
theorem midR_zero (d : Int) (S : List Rk) : midR d S 0 = S := rfl
theorem midR_all (d : Int) (S : List Rk) : midR d S S.length = rnkF d S 0 none := by
  unfold midR
  rw [List.drop_of_length_le (Nat.le_refl _), List.append_nil, List.take_of_length_le (by rw [rnkF_len]; exact Nat.le_refl _)]
theorem rk_set : ∀ (l : List Rk) (k : Nat) (v : Int) (x : Rk), l[k]? = some x →
    (l.flatMap rkE).set (k * 4 + 1) (.int .i64 v) = (l.set k ⟨x.who, v, x.time, x.fault⟩).flatMap rkE
  | [], _, _, _, h => by simp at h
  | x :: l, 0, v, t, h => by
    obtain rfl : x = t := by simpa using h
    simp [rkE]
  | x :: l, k + 1, v, t, h => by
    rw [List.set_cons_succ, List.flatMap_cons, List.flatMap_cons, ← rk_set l k v t (by simpa using h), List.set_append_right _ _ (by show 4 ≤ _; omega)]
    congr 2
    show (k + 1) * 4 + 1 - 4 = _; omega
set_option maxHeartbeats 1600000 in
set_option maxRecDepth 100000 in
theorem rkCmp_c (d : Int) (x y : Rk) (W : World) (b5 : Nat) (h5 : W.heap[b5]? = some (.cells #[.int .i64 d] 3 (0, 0))) (hd : 1 ≤ d) (hd2 : d ≤ 1000) (hx : 0 ≤ x.time ∧ x.time ≤ 360000) (hy : 0 ≤ y.time ∧ y.time ≤ 360000) :
    Calls Tryz.prog 221 (#[.agg (rkE x).toArray, .agg (rkE y).toArray] ++ #[.pointer (some ⟨b5, 0, none⟩)]) W fun e w' => e = .returned (.int .i64 (rkCf d x y)) ∧ Below W.heap.size W w' ∧ W.drawn ≤ w'.drawn := by
  have hV : rkCf d x y = x.time / d - y.time / d := rfl
  generalize rkCf d x y = V at *
  have hV' := Lib.hid hV
  clear hV
  obtain ⟨xw, xr, xt, xf⟩ := x
  obtain ⟨yw, yr, yt, yf⟩ := y
  dsimp only [rkE] at *
  have lt5 := lt_of_heap h5
  have h5' := blk_alloc (blk_alloc h5 (.cells #[.string xw, .int .i64 xr, .int .i64 xt, .int .i64 xf] 89)) (.cells #[.string yw, .int .i64 yr, .int .i64 yt, .int .i64 yf] 89)
  have hbx := blk_alloc (heap_alloc_new W (.cells #[.string xw, .int .i64 xr, .int .i64 xt, .int .i64 xf] 89)) (.cells #[.string yw, .int .i64 yr, .int .i64 yt, .int .i64 yf] 89)
  have hby := heap_alloc_new (W.alloc (.cells #[.string xw, .int .i64 xr, .int .i64 xt, .int .i64 xf] 89)) (.cells #[.string yw, .int .i64 yr, .int .i64 yt, .int .i64 yf] 89)
  rw [alloc_size] at hby
  have hB2 := (below_new W (.cells #[.string xw, .int .i64 xr, .int .i64 xt, .int .i64 xf] 89)).trans ((below_new (W.alloc (.cells #[.string xw, .int .i64 xr, .int .i64 xt, .int .i64 xf] 89)) (.cells #[.string yw, .int .i64 yr, .int .i64 yt, .int .i64 yf] 89)).mono (by simp))
  have hD2 : ((W.alloc (.cells #[.string xw, .int .i64 xr, .int .i64 xt, .int .i64 xf] 89)).alloc (.cells #[.string yw, .int .i64 yr, .int .i64 yt, .int .i64 yf] 89)).drawn = W.drawn := rfl
  have z8 := (blk_facts h5').1 0
  have z9 := (blk_facts hbx).1 2
  have z10 := (blk_facts hby).1 2
  have q1 : 0 ≤ xt / d := Int.ediv_nonneg hx.1 (by omega)
  have q2 : xt / d ≤ xt := Int.ediv_le_self _ hx.1
  have q3 : 0 ≤ yt / d := Int.ediv_nonneg hy.1 (by omega)
  have q4 : yt / d ≤ yt := Int.ediv_le_self _ hy.1
  have hne : (d == 0) = false := beq_eq_false_iff_ne.2 (by omega)
  have hw : IntKind.i64.wrap (xt / d - yt / d) = xt / d - yt / d := IntWalk.i64_in _ (by omega)
  clear h5 h5' hbx hby
  go_enter Tryz.func221, Tryz.ntmps221
  go_wp2
  generalize (W.alloc (.cells #[.string xw, .int .i64 xr, .int .i64 xt, .int .i64 xf] 89)).alloc (.cells #[.string yw, .int .i64 yr, .int .i64 yt, .int .i64 yf] 89) = w5 at *
  go_quiet (fail)
  go_wp2
  go_ret
  exact ⟨ret_i hV'.out.symm, below_drewN hB2 _, by show W.drawn ≤ w5.drawn + nq; omega⟩
theorem rkS_flat {p : Rk → Prop} (l : List { x : Rk // p x }) : l.flatMap (fun x => rkE x.1) = (l.map Subtype.val).flatMap rkE := by
  induction l with
  | nil => rfl
  | cons x r ih => rw [List.flatMap_cons, List.map_cons, List.flatMap_cons, ih]
/-- ranks in a row of the call's own, sorted by their times -/
theorem rkSorted_c (d : Int) (l : List Rk) (w : World) (base gb n c b5 : Nat) (hown : w.ownsRow base 89 4 (.slice (some ⟨gb, 0, none⟩) n c) n (l.flatMap rkE)) (hp : 0 < n) (hn : n ≤ 19) (h5 : w.heap[b5]? = some (.cells #[.int .i64 d] 3 (0, 0))) (hd : 1 ≤ d) (hd2 : d ≤ 1000) (hw : ∀ x ∈ l, 0 ≤ x.time ∧ x.time ≤ 360000) :
    Calls Tryz.prog 220 #[.slice (some ⟨gb, 0, none⟩) n c, .func (.func 221) #[] #[.pointer (some ⟨b5, 0, none⟩)]] w fun e w' => e = .returned (.tuple #[]) ∧ w'.ownsRow base 89 4 (.slice (some ⟨gb, 0, none⟩) n c) n ((rkSorted d l).flatMap rkE) ∧ w.grownBy w' (some gb) := by
  obtain ⟨ls, hls⟩ := sub_list (p := fun x : Rk => 0 ≤ x.time ∧ x.time ≤ 360000) l hw
  have hlen := own_len rkE_len (by decide) hown
  have hl0 : 0 < ls.length := by have : (ls.map Subtype.val).length = n := by rw [hls, hlen]
                                 rw [List.length_map] at this; omega
  have hinh : Inhabited { x : Rk // 0 ≤ x.time ∧ x.time ≤ 360000 } := ⟨ls[0]⟩
  have e1 := insL_map (ltOf fun x y : { x : Rk // 0 ≤ x.time ∧ x.time ≤ 360000 } => rkCf d x.1 y.1) (ltOf (rkCf d)) Subtype.val (fun _ _ => rfl) ls
  rw [hls] at e1
  have hown' : w.ownsRow base 89 4 (.slice (some ⟨gb, 0, none⟩) n c) n (ls.flatMap fun x => rkE x.1) := by rw [rkS_flat, hls]; exact hown
  have eg : ∀ args w, (callFunc 221 args).run Tryz.prog w = .ok (.enter 221 args) w := enters_of Tryz.func221 (by kernel_rfl) rfl
  refine (rkSort_c (fun x : { x : Rk // 0 ≤ x.time ∧ x.time ≤ 360000 } => rkE x.1) (fun _ => rfl) (fun x v hv => by simp [rkE] at hv; rcases hv with rfl | rfl | rfl | rfl <;> rfl) (fun x y => rkCf d x.1 y.1) _ _ eg base gb n c ls w (fun m os dk hdk x y => ?_) hown' hn).mono ?_
  · obtain ⟨_, hg⟩ := own_sortedK (fun x : { x : Rk // 0 ≤ x.time ∧ x.time ≤ 360000 } => rkE x.1) 4 (fun _ => rfl) (by decide) hown' (l' := dk.toList) (by rw [Array.length_toList]; exact hdk) m os
    rw [Array.toArray_toList] at hg
    generalize sortWorldK (fun x : { x : Rk // 0 ≤ x.time ∧ x.time ≤ 360000 } => rkE x.1) 4 w gb 0 m dk os = W at *
    have hK : Keep 89 w W := keep_of_app hown' hg
    exact (rkCmp_c d x.1 y.1 W b5 (hK _ _ _ _ (by decide) h5) hd hd2 x.2 y.2).mono fun _ _ ⟨he, hB, hD⟩ => ⟨he, grow_of hB hD⟩
  · rintro e w' ⟨rfl, ho, hg⟩
    rw [rkS_flat, ← e1] at ho
    exact ⟨rfl, ho, hg⟩
end Go.Proofs.YtcmfgmdkdpadjaaGreatDoor
