import Derived.Orders
import Derived.RegionTactic
import Derived.WalkKit
/- A region that draws its order, by an invariant: it is shown once for each operation, not once for each order. Over any program. -/
namespace Go.Proofs.YtdbfcneeiiialaaDoor
open Go.RowKit
set_option linter.unusedVariables false

def cntU (listed : Array Bool) : Nat → Nat
  | 0 => 0
  | n + 1 => cntU listed n + (if listed.getD n true then 0 else 1)
theorem getD_set_self' {listed : Array Bool} {i : Nat} (b : Bool) : (listed.setIfInBounds i true).getD i b = (if i < listed.size then true else b) := by
  rw [Array.getD_eq_getD_getElem?, Array.getElem?_setIfInBounds_self]
  split <;> simp
theorem getD_set_other {listed : Array Bool} {i j : Nat} (b : Bool) (h : i ≠ j) : (listed.setIfInBounds i true).getD j b = listed.getD j b := by
  rw [Array.getD_eq_getD_getElem?, Array.getElem?_setIfInBounds_ne h, ← Array.getD_eq_getD_getElem?]
theorem cntU_far {listed : Array Bool} {i : Nat} : ∀ n, n ≤ i → cntU (listed.setIfInBounds i true) n = cntU listed n
  | 0, _ => rfl
  | n + 1, h => by unfold cntU; rw [cntU_far n (by omega), getD_set_other _ (by omega)]
theorem cntU_set {listed : Array Bool} {i : Nat} (hi : listed.getD i true = false) : ∀ n, i < n → cntU (listed.setIfInBounds i true) n + 1 = cntU listed n
  | 0, h => absurd h (by omega)
  | n + 1, h => by
    have his : i < listed.size := by
      rcases Nat.lt_or_ge i listed.size with h' | h'
      · exact h'
      · rw [Array.getD_eq_getD_getElem?, Array.getElem?_eq_none h'] at hi; cases hi
    unfold cntU
    by_cases hin : i = n
    · subst hin
      rw [cntU_far i (Nat.le_refl _), getD_set_self', if_pos his, hi]; simp
    · rw [getD_set_other _ hin]
      have := cntU_set hi n (by omega)
      omega
theorem cntU_zero {listed : Array Bool} : ∀ n, cntU listed n = 0 → ∀ i, i < n → listed.getD i true = true
  | 0, _, i, hi => absurd hi (by omega)
  | n + 1, h, i, hi => by
    unfold cntU at h
    by_cases hin : i = n
    · subst hin
      cases hb : listed.getD i true
      · rw [hb] at h; simp at h
      · rfl
    · exact cntU_zero n (by omega) i (by omega)
theorem cntU_le (listed : Array Bool) : ∀ n, cntU listed n ≤ n
  | 0 => Nat.le_refl _
  | n + 1 => by
    have := cntU_le listed n
    unfold cntU
    split <;> omega

section
variable {P : Program} {ops : Array Oper} {Q : Exit → Act → World → Prop}
/-- what one operation owes: from a state that meets the invariant, itself not carried out and all that it waits for carried out, to a state that meets it -/
def StepInv (P : Program) (ops : Array Oper) (Q : Exit → Act → World → Prop) (Inv : Array Bool → Act → World → Prop) (i : Nat) (o : Oper) : Prop :=
  ∀ listed a w, listed.size = ops.size → Inv listed a w → listed.getD i true = false → (∀ e ∈ o.after, Region.binds .any e = true → listed.getD e.on false = true) →
    ∀ K' : Act → World → Prop, (∀ a w, Inv (listed.setIfInBounds i true) a w → K' a w) →
      if Region.wanted o (yielded ops a.tmps) = true then Oper.wp P o a w K' Q else K' (a.put o.dst undef) w
theorem wpAny_inv (Inv : Array Bool → Act → World → Prop) (hstep : ∀ i o, ops[i]? = some o → StepInv P ops Q Inv i o)
    (hend : ∀ listed a w, listed.size = ops.size → Inv listed a w → Region.ready .any ops listed = [] → Q .normal a w) :
    ∀ (fuel : Nat) (listed : Array Bool) (a : Act) (w : World), listed.size = ops.size → cntU listed ops.size ≤ fuel → Inv listed a w → wpAny P .any ops Q fuel listed a w
  | 0, listed, a, w, hs, hc, hI => by
    have hr : Region.ready .any ops listed = [] := by
      rw [List.eq_nil_iff_forall_not_mem]
      intro j hj
      obtain ⟨h0, o, ho, _⟩ := mem_ready.1 hj
      have := cntU_zero (listed := listed) ops.size (by omega) j (Array.getElem?_eq_some_iff.1 ho).1
      rw [h0] at this; cases this
    exact ⟨hr, hend listed a w hs hI hr⟩
  | fuel + 1, listed, a, w, hs, hc, hI => by
    refine ⟨fun hr => hend listed a w hs hI hr, fun i hi => ?_⟩
    obtain ⟨h0, o, ho, hall⟩ := mem_ready.1 hi
    have hlt := (Array.getElem?_eq_some_iff.1 ho).1
    refine wpOp_step ho (fun K' hK => ?_)
    refine hstep i o ho listed a w hs hI h0 hall K' (fun a' w' hI' => hK a' w' ?_)
    exact wpAny_inv Inv hstep hend fuel _ a' w' (by simpa using hs) (by have := cntU_set h0 ops.size hlt; omega) hI'
theorem wp_region_inv {id : Nat} {a : Act} {w : World} (hm : P.follows .mixedOrders = true) (Inv : Array Bool → Act → World → Prop)
    (h0 : Inv (Array.replicate ops.size false) a w.drew)
    (hstep : ∀ i o, ops[i]? = some o → StepInv P ops Q Inv i o)
    (hend : ∀ listed a w, listed.size = ops.size → Inv listed a w → Region.ready .any ops listed = [] → Q .normal a w) : (Code.region id ops true).wp P Q a w :=
  wp_region_any hm (wpAny_inv Inv hstep hend ops.size _ a _ (by simp) (cntU_le _ _) h0)
end
def AllOps (F : Nat → Oper → Prop) : Nat → List Oper → Prop
  | _, [] => True
  | k, o :: r => F k o ∧ AllOps F (k + 1) r
theorem AllOps.at_ {F : Nat → Oper → Prop} : ∀ {l : List Oper} {k i : Nat} {o : Oper}, AllOps F k l → l[i]? = some o → F (k + i) o
  | [], _, _, _, _, h => by simp at h
  | x :: l, k, 0, o, h, hx => by
    obtain rfl : x = o := by simpa using hx
    exact h.1
  | x :: l, k, i + 1, o, h, hx => by
    have := AllOps.at_ (i := i) h.2 (by simpa using hx)
    rwa [show k + 1 + i = k + (i + 1) from by omega] at this
theorem AllOps.of {F : Nat → Oper → Prop} {l : List Oper} (h : AllOps F 0 l) : ∀ i o, l.toArray[i]? = some o → F i o := fun i o ho => by
  have := AllOps.at_ (i := i) h (by simpa using ho)
  rwa [Nat.zero_add] at this
def updV (xs : Nat → Value) (i : Nat) (v : Value) : Nat → Value := fun j => if j = i then v else xs j
theorem cond_set {C : Nat → World → Value → Prop} {w w1 : World} {listed : Array Bool} {xs : Nat → Value} {i : Nat} {v : Value} (hC : ∀ j, listed.getD j false = true → C j w (xs j)) (hm : ∀ j v, C j w v → C j w1 v) (hv : C i w1 v) :
    ∀ j, (listed.setIfInBounds i true).getD j false = true → C j w1 (updV xs i v j) := fun j hj => by
  unfold updV
  by_cases h : j = i
  · rw [if_pos h, h]; exact hv
  · rw [getD_set_other _ (fun e => h e.symm)] at hj
    rw [if_neg h]; exact hm _ _ (hC j hj)
end Go.Proofs.YtdbfcneeiiialaaDoor

/- Counting what a drawn region has still to call. Over any program. -/
namespace Go.Proofs.YtdbfcneeiiialaaDoor
open Go.RowKit
set_option linter.unusedVariables false

def remL : List Nat → Array Bool → Nat
  | [], _ => 0
  | i :: r, L => (if L.getD i false then 0 else 1) + remL r L
theorem remL_set {i : Nat} {L : Array Bool} : ∀ {cs : List Nat}, i ∉ cs → remL cs (L.setIfInBounds i true) = remL cs L
  | [], _ => rfl
  | j :: r, h => by
    unfold remL
    rw [getD_set_other _ (fun e => h (by simp [e])), remL_set (fun hm => h (by simp [hm]))]
theorem remL_call {i : Nat} {L : Array Bool} (h : L.getD i true = false) : ∀ {cs : List Nat}, i ∈ cs → cs.Nodup → remL cs (L.setIfInBounds i true) + 1 = remL cs L
  | [], hm, _ => by cases hm
  | j :: r, hm, hn => by
    rw [List.nodup_cons] at hn
    have his : i < L.size := by
      rcases Nat.lt_or_ge i L.size with h' | h'
      · exact h'
      · rw [Array.getD_eq_getD_getElem?, Array.getElem?_eq_none h'] at h; cases h
    have hf : L.getD i false = false := by rw [Array.getD_eq_getD_getElem?, Array.getElem?_eq_getElem his] at h ⊢; exact h
    unfold remL
    by_cases e : i = j
    · subst e
      rw [getD_set_self', if_pos his, remL_set hn.1, hf]
      simp; omega
    · rw [getD_set_other _ e]
      rcases List.mem_cons.1 hm with e2 | hm2
      · exact absurd e2 e
      · have := remL_call h hm2 hn.2
        omega
theorem remL_le (L : Array Bool) : ∀ cs : List Nat, remL cs L ≤ cs.length
  | [] => Nat.le_refl _
  | j :: r => by
    have := remL_le L r
    unfold remL
    rw [List.length_cons]
    split <;> omega
def depOK (i : Nat) (o : Oper) : Bool := o.after.toList.all fun e => (!Region.binds .any e || decide (e.on < i))
/-- where nothing is ready any more all is carried out, if all waits for what stands ahead of it -/
theorem all_listed {ops : List Oper} {listed : Array Bool} (hs : listed.size = ops.toArray.size) (hr : Region.ready .any ops.toArray listed = []) (hd : AllOps (fun i o => depOK i o = true) 0 ops) : ∀ i, i < ops.toArray.size → listed.getD i false = true := by
  have key : ∀ m i, i < m → i < ops.toArray.size → listed.getD i false = true := by
    intro m
    induction m with
    | zero => intro i h; omega
    | succ m ih =>
      intro i him hi
      cases e : listed.getD i false
      · exfalso
        have e1 : listed.getD i true = false := by
          have his : i < listed.size := by omega
          rw [Array.getD_eq_getD_getElem?, Array.getElem?_eq_getElem his] at e ⊢; exact e
        have ho : ops.toArray[i]? = some ops.toArray[i] := Array.getElem?_eq_getElem hi
        have hdo : depOK i ops.toArray[i] = true := AllOps.of hd i _ ho
        have hm : i ∈ Region.ready .any ops.toArray listed := mem_ready.2 ⟨e1, _, ho, fun ed hed hb => by
          unfold depOK at hdo
          have h1 := List.all_eq_true.1 hdo ed (by simpa using hed)
          rw [hb] at h1
          have h2 : ed.on < i := by simpa using h1
          exact ih ed.on (by omega) (by omega)⟩
        rw [hr] at hm
        cases hm
      · rfl
  exact fun i hi => key (i + 1) i (by omega) hi
/-- the slots' values are known -/
def CV (vs : List (Option Value)) (j : Nat) (_ : World) (v : Value) : Prop := ∀ u, vs[j]? = some (some u) → v = u
theorem CV.of {vs : List (Option Value)} {j : Nat} {w : World} {v u : Value} (h : vs[j]? = some (some u)) (hv : v = u) : CV vs j w v := fun u' h' => by rw [h] at h'; injection h' with h'; injection h' with h'; rw [hv, h']
theorem CV.free {vs : List (Option Value)} {j : Nat} {w : World} {v : Value} (h : vs[j]? = some none) : CV vs j w v := fun u' h' => by rw [h] at h'; cases h'
end Go.Proofs.YtdbfcneeiiialaaDoor
