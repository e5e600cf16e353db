/- FinalsAreFull: the plain law. -/
import Derived.Test.YtcmfgmdkdpadjaaGreatDoorRepD
import Derived.Test.YtcmfgmdkdpadjaaGreatDoorSeedF
namespace Go.Proofs.YtcmfgmdkdpadjaaGreatDoor
open Go.RowKit Go.Sort
set_option linter.unusedVariables false

theorem seedNodup {l : List Sd} (h : seedErr l = 0) : (l.map Sd.who).Nodup := by
  rw [seedErr_ref] at h
  split at h
  · cases h
  · split at h
    · rename_i h2; exact absurd h h2
    · split at h
      · assumption
      · cases h
theorem cls_neg {f : Fl} (hf : FlOk f) {k : Nat} (h : cls f k < 0) : cls f (k + 1) < 0 := by
  unfold cls at *
  have hd : 0 ≤ (k : Int) / f.sz := Int.ediv_nonneg (by omega) (by have := hf.1.1; omega)
  generalize f.sz * f.mn = q at *
  push_cast
  split at h
  · omega
  · split at h
    · omega
    · rw [if_neg (by omega), if_neg (by omega)]; omega
theorem cls_val {f : Fl} (hf : FlOk f) {i : Nat} (h : 0 ≤ cls f i) : cls f i = (if f.mn < (i : Int) / f.sz + 1 then 0 else (i : Int) / f.sz + 1) ∧ cls f i ≤ f.mn := by
  have hs : 0 < f.sz := by have := hf.1.1; omega
  have hm : 1 ≤ f.mn := hf.2.1.1
  have hiff : (i : Int) / f.sz < f.mn ↔ (i : Int) < f.mn * f.sz := Int.ediv_lt_iff_lt_mul hs
  rw [Int.mul_comm f.mn] at hiff
  have hd : 0 ≤ (i : Int) / f.sz := Int.ediv_nonneg (by omega) (by omega)
  unfold cls at *
  generalize f.sz * f.mn = q at *
  by_cases h1 : (i : Int) < q
  · have h2 := hiff.2 h1
    rw [if_pos h1, if_neg (by omega)]
    exact ⟨rfl, by omega⟩
  · have h2 : ¬ (i : Int) / f.sz < f.mn := fun h => h1 (hiff.1 h)
    rw [if_neg h1] at h ⊢
    split at h
    · rename_i h3
      rw [if_pos h3, if_pos (by omega)]
      exact ⟨rfl, by omega⟩
    · omega
theorem cls_zero {f : Fl} (hf : FlOk f) {i j : Nat} (hij : i ≤ j) (h : cls f i = 0) (hj : 0 ≤ cls f j) : cls f j = 0 := by
  have hd : 0 ≤ (i : Int) / f.sz := Int.ediv_nonneg (by omega) (by have := hf.1.1; omega)
  unfold cls at *
  generalize f.sz * f.mn = q at *
  split at h
  · omega
  · rw [if_neg (by omega)] at hj ⊢
    split at hj
    · rename_i h3; rw [if_pos h3]
    · omega
theorem cls_mono {f : Fl} (hf : FlOk f) {k : Nat} (h : 0 ≤ cls f k) (h1 : 0 ≤ cls f (k + 1)) : cls f (k + 1) = 0 ∨ (cls f k ≠ 0 ∧ cls f k ≤ cls f (k + 1)) := by
  have hs : 0 < f.sz := by have := hf.1.1; omega
  have hd : 0 ≤ (k : Int) / f.sz := Int.ediv_nonneg (by omega) (by omega)
  have hm : (k : Int) / f.sz ≤ ((k + 1 : Nat) : Int) / f.sz := Int.ediv_le_ediv hs (by push_cast; omega)
  unfold cls at *
  generalize f.sz * f.mn = q at *
  by_cases h2 : ((k + 1 : Nat) : Int) < q
  · right
    rw [if_pos h2, if_pos (by push_cast at h2; omega)]
    exact ⟨by omega, by omega⟩
  · left
    rw [if_neg h2] at h1 ⊢
    split at h1
    · rename_i h3; rw [if_pos h3]
    · omega
theorem plc_none {f : Fl} (hf : FlOk f) (L : List Sd) : ∀ (l : List Sd) (k : Nat), cls f k < 0 → plc f L k l = []
  | [], _, _ => rfl
  | x :: r, k, h => by
    unfold plc
    rw [if_neg (by omega), plc_none hf L r (k + 1) (cls_neg hf h)]
    rfl
theorem plc_get {f : Fl} (hf : FlOk f) (L : List Sd) : ∀ (l : List Sd) (k i : Nat) (y : Pc), (plc f L k l)[i]? = some y → ∃ x, l[i]? = some x ∧ y = ⟨x.who, cls f (k + i), rnkS L x.time⟩ ∧ 0 ≤ cls f (k + i)
  | [], k, i, y, h => by simp [plc] at h
  | x :: r, k, i, y, h => by
    unfold plc at h
    by_cases h0 : 0 ≤ cls f k
    · rw [if_pos h0] at h
      cases i with
      | zero =>
        have h' : some (⟨x.who, cls f k, rnkS L x.time⟩ : Pc) = some y := h
        injection h' with h'
        exact ⟨x, rfl, h'.symm, h0⟩
      | succ i =>
        have h' : (plc f L (k + 1) r)[i]? = some y := h
        obtain ⟨x', h1, h2, h3⟩ := plc_get hf L r (k + 1) i y h'
        rw [show k + 1 + i = k + (i + 1) by omega] at h2 h3
        exact ⟨x', h1, h2, h3⟩
    · rw [if_neg h0, plc_none hf L r (k + 1) (cls_neg hf (by omega))] at h
      simp at h
theorem plc_sub (f : Fl) (L : List Sd) : ∀ (l : List Sd) (k : Nat), ((plc f L k l).map Pc.who).Sublist (l.map Sd.who)
  | [], _ => by simp [plc]
  | x :: r, k => by
    unfold plc
    rw [List.map_append, List.map_cons]
    split
    · exact List.Sublist.cons_cons _ (plc_sub f L r (k + 1))
    · exact List.Sublist.cons _ (plc_sub f L r (k + 1))
theorem finL_sorted (l : List Sd) : (finL l).Pairwise fun x y => x.time ≤ y.time := by
  have h1 : (ordL l).Pairwise fun x y => ltOf sdCf y x = false := by
    rw [List.pairwise_iff_getElem]
    intro i j hi hj hij
    exact (insL_spec sdSWO l).2 i j _ _ hij (List.getElem?_eq_getElem hi) (List.getElem?_eq_getElem hj)
  have h2 : (finL l).Pairwise fun x y => ltOf sdCf y x = false := h1.filter _
  refine List.Pairwise.imp_of_mem (fun {x y} hx hy hxy => ?_) h2
  have hx0 := (finL_mem.1 hx).2
  have hy0 := (finL_mem.1 hy).2
  rw [sdLt_no] at hxy
  omega
theorem faster_mono (L : List Sd) {t t' : Int} (h : t ≤ t') : fasterN t L ≤ fasterN t' L := by
  unfold fasterN
  induction L with
  | nil => exact Nat.le_refl _
  | cons x r ih =>
    rw [List.filter_cons, List.filter_cons]
    by_cases h1 : x.time < t
    · rw [if_pos (by simpa using h1), if_pos (by simp; omega), List.length_cons, List.length_cons]; omega
    · rw [if_neg (by simpa using h1)]
      split
      · rw [List.length_cons]; omega
      · exact ih
theorem cnt_bd {f : Fl} (hf : FlOk f) (L l : List Sd) (v : Int) (hv : 1 ≤ v) : ∀ m : Nat, (cntF v ((plc f L 0 l).take m) : Int) ≤ min f.sz (max 0 ((m : Int) - (v - 1) * f.sz))
  | 0 => by
    have hs : 0 < f.sz := by have := hf.1.1; omega
    have : 0 ≤ (v - 1) * f.sz := Int.mul_nonneg (by omega) (by omega)
    show ((0 : Nat) : Int) ≤ _
    omega
  | m + 1 => by
    have hs : 0 < f.sz := by have := hf.1.1; omega
    have ih := cnt_bd hf L l v hv m
    rw [List.take_add_one]
    cases hm : (plc f L 0 l)[m]? with
    | none =>
      show (cntF v ((plc f L 0 l).take m ++ []) : Int) ≤ _
      rw [List.append_nil]
      push_cast
      omega
    | some y =>
      show (cntF v ((plc f L 0 l).take m ++ [y]) : Int) ≤ _
      rw [cntF_snoc]
      obtain ⟨x, _, hy, h0⟩ := plc_get hf L l 0 m y hm
      rw [Nat.zero_add] at hy h0
      by_cases he : y.fin = v
      · rw [if_pos he]
        have hc : cls f m = v := by rw [hy] at he; exact he
        obtain ⟨hc1, hc2⟩ := cls_val hf h0
        have hdv : (m : Int) / f.sz = v - 1 := by
          rw [hc] at hc1
          split at hc1 <;> omega
        have hmd := Int.emod_add_mul_ediv (m : Int) f.sz
        have hm0 := Int.emod_nonneg (m : Int) (show f.sz ≠ 0 by omega)
        have hm1 := Int.emod_lt_of_pos (m : Int) hs
        rw [hdv, Int.mul_comm] at hmd
        generalize (v - 1) * f.sz = q at *
        push_cast
        omega
      · rw [if_neg he]
        push_cast
        omega
theorem plcV_ok {f : Fl} (hf : FlOk f) {l : List Sd} (h0 : seedErr l = 0) (hl : l.length ≤ 19) : PlsOk f (plcV f l) := by
  obtain ⟨_, hso⟩ := seedErr_ok h0
  have hsub := plc_sub f (finL l) (finL l) 0
  have hfl := finL_len l
  have hget := fun i y h => plc_get hf (finL l) (finL l) 0 i y h
  have hlen : (plcV f l).length ≤ 19 := by
    have := hsub.length_le
    rw [List.length_map, List.length_map] at this
    unfold plcV
    omega
  refine ⟨by omega, fun x hx => ?_, fun k x y hx hy => ?_, fun k x hx hp => ?_, ?_⟩
  · obtain ⟨i, hi⟩ := List.getElem?_of_mem hx
    obtain ⟨z, hz, rfl, hc⟩ := hget i x hi
    rw [Nat.zero_add] at hc
    have hzm := finL_mem.1 (List.mem_of_getElem? hz)
    have hfa := faster_le z.time (finL l)
    refine ⟨(hso z hzm.1).1, ⟨?_, ?_⟩, ?_⟩
    · show 0 ≤ cls f (0 + i); rw [Nat.zero_add]; exact hc
    · show cls f (0 + i) ≤ f.mn; rw [Nat.zero_add]; exact (cls_val hf hc).2
    · show 1 ≤ rnkS (finL l) z.time ∧ rnkS (finL l) z.time ≤ 300
      unfold rnkS
      omega
  · obtain ⟨z, hz, rfl, hc⟩ := hget k x hx
    obtain ⟨z', hz', rfl, hc'⟩ := hget (k + 1) y hy
    rw [Nat.zero_add] at hc hc'
    show cls f (0 + (k + 1)) = 0 ∨ (cls f (0 + k) ≠ 0 ∧ cls f (0 + k) ≤ cls f (0 + (k + 1)))
    rw [Nat.zero_add, Nat.zero_add]
    exact cls_mono hf hc hc'
  · have := cnt_bd hf (finL l) (finL l) x.fin (by omega) (k + 1)
    unfold plcV
    omega
  · have h1 : ((ordL l).map Sd.who).Nodup := (((ord_perm l).map Sd.who).nodup_iff).2 (seedNodup h0)
    have h2 : ((finL l).map Sd.who).Nodup := h1.sublist ((List.filter_sublist).map _)
    exact h2.sublist hsub
theorem plcV_fin {f : Fl} (hf : FlOk f) {l : List Sd} {i : Nat} {y : Pc} (h : (plcV f l)[i]? = some y) : y.fin = if f.mn < (i : Int) / f.sz + 1 then 0 else (i : Int) / f.sz + 1 := by
  obtain ⟨z, hz, rfl, hc⟩ := plc_get hf (finL l) (finL l) 0 i y h
  rw [Nat.zero_add] at hc
  show cls f (0 + i) = _
  rw [Nat.zero_add]
  exact (cls_val hf hc).1
theorem plcV_rank {f : Fl} (hf : FlOk f) {l : List Sd} {i : Nat} {x y : Pc} (hx : (plcV f l)[i]? = some x) (hy : (plcV f l)[i + 1]? = some y) : x.rk ≤ y.rk := by
  obtain ⟨z, hz, rfl, _⟩ := plc_get hf (finL l) (finL l) 0 i x hx
  obtain ⟨z', hz', rfl, _⟩ := plc_get hf (finL l) (finL l) 0 (i + 1) y hy
  have hp := List.pairwise_iff_getElem.1 (finL_sorted l) i (i + 1) (List.getElem?_eq_some_iff.1 hz).1 (List.getElem?_eq_some_iff.1 hz').1 (by omega)
  rw [(List.getElem?_eq_some_iff.1 hz).2, (List.getElem?_eq_some_iff.1 hz').2] at hp
  have := faster_mono (finL l) hp
  show rnkS (finL l) z.time ≤ rnkS (finL l) z'.time
  unfold rnkS
  omega
theorem due_none : ∀ (q : List Pc), (∀ x ∈ q, x.fin = 0) → dueL q = []
  | [], _ => rfl
  | x :: r, h => by
    unfold dueL
    rw [List.filter_cons, if_neg (by rw [h x (by simp)]; simp)]
    exact due_none r fun y hy => h y (by simp [hy])
theorem due_get : ∀ (q : List Pc) (k : Nat) (y : Pc), (∀ x ∈ q, 0 ≤ x.fin) → (∀ (i j : Nat) (x z : Pc), i ≤ j → q[i]? = some x → q[j]? = some z → x.fin = 0 → z.fin = 0) → q[k]? = some y → (dueL q).getD k 0 = y.fin
  | [], _, _, _, _, h => by simp at h
  | x :: r, k, y, hp, hz, h => by
    by_cases h0 : x.fin = 0
    · rw [due_none (x :: r) (fun z hzm => by
        obtain ⟨j, hj⟩ := List.getElem?_of_mem hzm
        exact hz 0 j x z (Nat.zero_le _) rfl hj h0)]
      rw [hz 0 k x y (Nat.zero_le _) rfl h h0]
      rfl
    · have hx0 : 0 < x.fin := by have := hp x (by simp); omega
      have e : dueL (x :: r) = x.fin :: dueL r := by unfold dueL; rw [List.filter_cons, if_pos (by simpa using hx0)]; rfl
      rw [e]
      cases k with
      | zero =>
        have h' : some x = some y := h
        injection h' with h'
        rw [← h']; rfl
      | succ k =>
        have ih := due_get r k y (fun z hz => hp z (by simp [hz])) (fun i j a b hij ha hb h0 => hz (i + 1) (j + 1) a b (by omega) ha hb h0) h
        exact ih
theorem plcV_due {f : Fl} (hf : FlOk f) {l : List Sd} {k : Nat} {y : Pc} (h : (plcV f l)[k]? = some y) : (dueL (plcV f l)).getD k 0 = y.fin := by
  have hget := fun i y h => plc_get hf (finL l) (finL l) 0 i y h
  refine due_get _ k y (fun x hx => ?_) (fun i j x z hij hx hz h0 => ?_) h
  · obtain ⟨i, hi⟩ := List.getElem?_of_mem hx
    obtain ⟨z, _, rfl, hc⟩ := hget i x hi
    exact hc
  · obtain ⟨x', _, rfl, hc⟩ := hget i x hx
    obtain ⟨z', _, rfl, hc'⟩ := hget j z hz
    exact cls_zero hf (by omega) h0 hc'
theorem newGo_at (due : List Int) : ∀ (l : List Pc) (k i : Nat) (x : Pc), l[i]? = some x → (newGo due k l)[i]? = some ⟨x.who, due.getD (k + i) 0, x.rk⟩
  | [], _, _, _, h => by simp at h
  | y :: r, k, 0, x, h => by
    have h' : some y = some x := h
    injection h' with h'
    subst h'
    rfl
  | y :: r, k, i + 1, x, h => by
    have ih := newGo_at due r (k + 1) i x h
    rw [show k + 1 + i = k + (i + 1) by omega] at ih
    exact ih
theorem kept_at {p : List Pc} {who : List ByteArray} {j : Nat} {x : Pc} (hx : p[j]? = some x) (hc : Lib.containsS who x.who = false) : (keptL p who)[(keptL (p.take j) who).length]? = some x := by
  have h1 : keptL p who = keptL (p.take j) who ++ keptL (p.drop j) who := by
    unfold keptL
    rw [← List.filter_append, List.take_append_drop]
  have h2 : keptL (p.drop j) who = x :: keptL (p.drop (j + 1)) who := by
    rw [drop_at hx]
    unfold keptL
    rw [List.filter_cons, if_pos (by simp [hc])]
  rw [h1, h2, List.getElem?_append_right (Nat.le_refl _), Nat.sub_self]
  rfl
theorem kept_len {p : List Pc} {who : List ByteArray} (hn : (p.map Pc.who).Nodup) (hm : ∀ s ∈ who, s ∈ p.map Pc.who) (hd : who.Nodup) : (keptL p who).length + who.length = p.length := by
  have h1 : (p.filter fun y => Lib.containsS who y.who).length + (keptL p who).length = p.length := by
    have := (List.filter_append_perm (fun y : Pc => Lib.containsS who y.who) p).length_eq
    rw [List.length_append] at this
    exact this
  have h2 : ((p.filter fun y => Lib.containsS who y.who).map Pc.who).Nodup := hn.sublist ((List.filter_sublist).map _)
  have h3 : ((p.filter fun y => Lib.containsS who y.who).map Pc.who).Perm who := by
    refine (List.perm_ext_iff_of_nodup h2 hd).2 fun a => ⟨fun ha => ?_, fun ha => ?_⟩
    · obtain ⟨y, hy, rfl⟩ := List.mem_map.1 ha
      exact (Lib.containsS_iff _ _).1 (List.mem_filter.1 hy).2
    · obtain ⟨y, hy, rfl⟩ := List.mem_map.1 (hm a ha)
      exact List.mem_map.2 ⟨y, List.mem_filter.2 ⟨hy, (Lib.containsS_iff _ _).2 ha⟩, rfl⟩
  have h4 := h3.length_eq
  rw [List.length_map] at h4
  omega
theorem newL_len {p : List Pc} {who : List ByteArray} (hn : (p.map Pc.who).Nodup) (hm : ∀ s ∈ who, s ∈ p.map Pc.who) (hd : who.Nodup) : (newL p who).length + who.length = p.length := by
  unfold newL
  rw [newGo_len]
  exact kept_len hn hm hd
end Go.Proofs.YtcmfgmdkdpadjaaGreatDoor
