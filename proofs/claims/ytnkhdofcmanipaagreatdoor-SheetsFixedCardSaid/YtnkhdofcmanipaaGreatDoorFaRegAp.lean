import Derived.Test.YtnkhdofcmanipaaGreatDoorFaStructs
import Derived.Test.YtnkhdofcmanipaaGreatDoorFaStream
import Derived.Maps.AppendAt
import Derived.Orders
import Derived.RegionTactic
import Derived.WalkKit
import Derived.Deep.AppendLies
/- Two rows of int of the call's own, side by side, beside a stream and a race in a cell. Over any program. -/
namespace Go.Proofs.YtnkhdofcmanipaaGreatDoor
open Go.RowKit
set_option linter.unusedVariables false

section
variable {P : Program} {w : World}
end

def Dis (v1 v2 : Value) : Prop := ∀ i, v1.ownBlock = some i → v2.ownBlock = some i → False
theorem Dis.symm {v1 v2 : Value} (h : Dis v1 v2) : Dis v2 v1 := fun i h1 h2 => h i h2 h1
theorem Dis.ne {v1 v2 : Value} (h : Dis v1 v2) : v2.ownBlock = none ∨ v2.ownBlock ≠ v1.ownBlock := by
  cases hv : v2.ownBlock with
  | none => exact .inl rfl
  | some i => exact .inr (fun e => h i e.symm hv)
structure D3 (w : World) (b4 base : Nat) (cs : Array Value) (zs : Zs) (u1 u2 : Value) (n1 n2 : Nat) (l1 l2 : List Int) (k : Nat) (wx : World) : Prop where
  o1 : wx.ownsRow base 3 1 u1 n1 (ints l1)
  o2 : wx.ownsRow base 3 1 u2 n2 (ints l2)
  dis : Dis u1 u2
  st : St wx w.heap.size zs k
  rc : wx.heap[b4]? = some (.cells cs 51 (0, 0))
  b4l : b4 < base
  gl : w.heap.size < base
  bs : base ≤ wx.heap.size
  bel : Below w.heap.size w wx

section
variable {w wx w' : World} {b4 base : Nat} {cs : Array Value} {zs : Zs} {u1 u2 : Value} {n1 n2 : Nat} {l1 l2 : List Int} {k : Nat}
theorem D3.below (h : D3 w b4 base cs zs u1 u2 n1 n2 l1 l2 k wx) (B : Below wx.heap.size wx w') : D3 w b4 base cs zs u1 u2 n1 n2 l1 l2 k w' :=
  ⟨own_below h.o1 B, own_below h.o2 B, h.dis, h.st.below B, blk_below h.rc B, h.b4l, h.gl, Nat.le_trans h.bs B.size, below_next h.bel B⟩
theorem D3.alloc (h : D3 w b4 base cs zs u1 u2 n1 n2 l1 l2 k wx) (o : Obj) : D3 w b4 base cs zs u1 u2 n1 n2 l1 l2 k (wx.alloc o) := h.below (below_new wx o)
theorem D3.drewN (h : D3 w b4 base cs zs u1 u2 n1 n2 l1 l2 k wx) (q : Nat) : D3 w b4 base cs zs u1 u2 n1 n2 l1 l2 k (wx.drewN q) := h.below (below_drewN (Below.refl _ _) q)
theorem D3.drew (h : D3 w b4 base cs zs u1 u2 n1 n2 l1 l2 k wx) : D3 w b4 base cs zs u1 u2 n1 n2 l1 l2 k wx.drew := ⟨h.o1, h.o2, h.dis, h.st, h.rc, h.b4l, h.gl, h.bs, ⟨h.bel.os, h.bel.tape, h.bel.output, h.bel.size, h.bel.block⟩⟩
theorem D3.stream {k' : Nat} (h : D3 w b4 base cs zs u1 u2 n1 n2 l1 l2 k wx) (hs : St w' w.heap.size zs k') (hg : wx.grownBy w' (some w.heap.size)) : D3 w b4 base cs zs u1 u2 n1 n2 l1 l2 k' w' :=
  ⟨own_keep h.o1 h.gl hg, own_keep h.o2 h.gl hg, h.dis, hs, h.st.keep hg b4 cs _ (0, 0) (by decide) h.rc, h.b4l, h.gl, Nat.le_trans h.bs hg.size, h.bel.trans (grown_below hg (Nat.le_refl _) h.bel.size)⟩
theorem D3.lt1 {b c : Nat} (h : D3 w b4 base cs zs (.slice (some ⟨b, 0, none⟩) n1 c) u2 n1 n2 l1 l2 k wx) : b < wx.heap.size := (h.o1.lt b rfl).2
/-- the first m of an own row -/
theorem own_prefix {b n c m : Nat} {l : List Int} (h : wx.ownsRow base 3 1 (.slice (some ⟨b, 0, none⟩) n c) n (ints l)) (hm : m ≤ n) : wx.ownsRow base 3 1 (.slice (some ⟨b, 0, none⟩) m c) m (ints (l.take m)) := by
  rcases h with ⟨h1, ⟨h2, _⟩ | ⟨g, cap, cur, hv, h3, h4, h5, h6, h7, h8⟩⟩
  · cases h2
  · injection hv with e1 e2 e3
    injection e1 with e1
    injection e1 with e1 _ _
    subst e1
    subst e3
    refine ⟨by rw [ints_len] at h1 ⊢; rw [List.length_take]; omega, .inr ⟨b, c, cur, rfl, h3, h4, by omega, h6, h7, ?_⟩⟩
    unfold ints at h8 ⊢
    rw [List.map_take, ← h8, List.take_take]
    congr 1
    omega
theorem D3.cut {b1 c1 b2 c2 m1 m2 : Nat} (h : D3 w b4 base cs zs (.slice (some ⟨b1, 0, none⟩) n1 c1) (.slice (some ⟨b2, 0, none⟩) n2 c2) n1 n2 l1 l2 k wx) (h1 : m1 ≤ n1) (h2 : m2 ≤ n2) : D3 w b4 base cs zs (.slice (some ⟨b1, 0, none⟩) m1 c1) (.slice (some ⟨b2, 0, none⟩) m2 c2) m1 m2 (l1.take m1) (l2.take m2) k wx :=
  ⟨own_prefix h.o1 h1, own_prefix h.o2 h2, h.dis, h.st, h.rc, h.b4l, h.gl, h.bs, h.bel⟩
theorem D3.r1 {A : Option Addr} {c : Nat} (h : D3 w b4 base cs zs (.slice A n1 c) u2 n1 n2 l1 l2 k wx) (hn : n1 ≤ 1000) : RI 3 wx A n1 l1 := R1.of_own h.o1 (le_big hn)
theorem D3.r2 {A : Option Addr} {c : Nat} (h : D3 w b4 base cs zs u1 (.slice A n2 c) n1 n2 l1 l2 k wx) (hn : n2 ≤ 1000) : RI 3 wx A n2 l2 := R1.of_own h.o2 (le_big hn)
end
end Go.Proofs.YtnkhdofcmanipaaGreatDoor

/- A region that draws its order, by an invariant: it is shown once for each operation, not once for each order. Over any program. -/
namespace Go.Proofs.YtnkhdofcmanipaaGreatDoor
open Go.RowKit
set_option linter.unusedVariables false

def cntU (listed : Array Bool) : Nat → Nat
  | 0 => 0
  | n + 1 => cntU listed n + (if listed.getD n true then 0 else 1)
theorem getD_set_self' {listed : Array Bool} {i : Nat} (b : Bool) : (listed.setIfInBounds i true).getD i b = (if i < listed.size then true else b) := by
  rw [Array.getD_eq_getD_getElem?, Array.getElem?_setIfInBounds_self]
  split <;> simp
theorem getD_set_other {listed : Array Bool} {i j : Nat} (b : Bool) (h : i ≠ j) : (listed.setIfInBounds i true).getD j b = listed.getD j b := by
  rw [Array.getD_eq_getD_getElem?, Array.getElem?_setIfInBounds_ne h, ← Array.getD_eq_getD_getElem?]
theorem cntU_far {listed : Array Bool} {i : Nat} : ∀ n, n ≤ i → cntU (listed.setIfInBounds i true) n = cntU listed n
  | 0, _ => rfl
  | n + 1, h => by unfold cntU; rw [cntU_far n (by omega), getD_set_other _ (by omega)]
theorem cntU_set {listed : Array Bool} {i : Nat} (hi : listed.getD i true = false) : ∀ n, i < n → cntU (listed.setIfInBounds i true) n + 1 = cntU listed n
  | 0, h => absurd h (by omega)
  | n + 1, h => by
    have his : i < listed.size := by
      rcases Nat.lt_or_ge i listed.size with h' | h'
      · exact h'
      · rw [Array.getD_eq_getD_getElem?, Array.getElem?_eq_none h'] at hi; cases hi
    unfold cntU
    by_cases hin : i = n
    · subst hin
      rw [cntU_far i (Nat.le_refl _), getD_set_self', if_pos his, hi]; simp
    · rw [getD_set_other _ hin]
      have := cntU_set hi n (by omega)
      omega
theorem cntU_zero {listed : Array Bool} : ∀ n, cntU listed n = 0 → ∀ i, i < n → listed.getD i true = true
  | 0, _, i, hi => absurd hi (by omega)
  | n + 1, h, i, hi => by
    unfold cntU at h
    by_cases hin : i = n
    · subst hin
      cases hb : listed.getD i true
      · rw [hb] at h; simp at h
      · rfl
    · exact cntU_zero n (by omega) i (by omega)
theorem cntU_le (listed : Array Bool) : ∀ n, cntU listed n ≤ n
  | 0 => Nat.le_refl _
  | n + 1 => by
    have := cntU_le listed n
    unfold cntU
    split <;> omega

section
variable {P : Program} {ops : Array Oper} {Q : Exit → Act → World → Prop}
/-- what one operation owes: from a state that meets the invariant, itself not carried out and all that it waits for carried out, to a state that meets it -/
def StepInv (P : Program) (ops : Array Oper) (Q : Exit → Act → World → Prop) (Inv : Array Bool → Act → World → Prop) (i : Nat) (o : Oper) : Prop :=
  ∀ listed a w, listed.size = ops.size → Inv listed a w → listed.getD i true = false → (∀ e ∈ o.after, Region.binds .any e = true → listed.getD e.on false = true) →
    ∀ K' : Act → World → Prop, (∀ a w, Inv (listed.setIfInBounds i true) a w → K' a w) →
      if Region.wanted o (yielded ops a.tmps) = true then Oper.wp P o a w K' Q else K' (a.put o.dst undef) w
theorem wpAny_inv (Inv : Array Bool → Act → World → Prop) (hstep : ∀ i o, ops[i]? = some o → StepInv P ops Q Inv i o)
    (hend : ∀ listed a w, listed.size = ops.size → Inv listed a w → Region.ready .any ops listed = [] → Q .normal a w) :
    ∀ (fuel : Nat) (listed : Array Bool) (a : Act) (w : World), listed.size = ops.size → cntU listed ops.size ≤ fuel → Inv listed a w → wpAny P .any ops Q fuel listed a w
  | 0, listed, a, w, hs, hc, hI => by
    have hr : Region.ready .any ops listed = [] := by
      rw [List.eq_nil_iff_forall_not_mem]
      intro j hj
      obtain ⟨h0, o, ho, _⟩ := mem_ready.1 hj
      have := cntU_zero (listed := listed) ops.size (by omega) j (Array.getElem?_eq_some_iff.1 ho).1
      rw [h0] at this; cases this
    exact ⟨hr, hend listed a w hs hI hr⟩
  | fuel + 1, listed, a, w, hs, hc, hI => by
    refine ⟨fun hr => hend listed a w hs hI hr, fun i hi => ?_⟩
    obtain ⟨h0, o, ho, hall⟩ := mem_ready.1 hi
    have hlt := (Array.getElem?_eq_some_iff.1 ho).1
    refine wpOp_step ho (fun K' hK => ?_)
    refine hstep i o ho listed a w hs hI h0 hall K' (fun a' w' hI' => hK a' w' ?_)
    exact wpAny_inv Inv hstep hend fuel _ a' w' (by simpa using hs) (by have := cntU_set h0 ops.size hlt; omega) hI'
theorem wp_region_inv {id : Nat} {a : Act} {w : World} (hm : P.follows .mixedOrders = true) (Inv : Array Bool → Act → World → Prop)
    (h0 : Inv (Array.replicate ops.size false) a w.drew)
    (hstep : ∀ i o, ops[i]? = some o → StepInv P ops Q Inv i o)
    (hend : ∀ listed a w, listed.size = ops.size → Inv listed a w → Region.ready .any ops listed = [] → Q .normal a w) : (Code.region id ops true).wp P Q a w :=
  wp_region_any hm (wpAny_inv Inv hstep hend ops.size _ a _ (by simp) (cntU_le _ _) h0)
end
def AllOps (F : Nat → Oper → Prop) : Nat → List Oper → Prop
  | _, [] => True
  | k, o :: r => F k o ∧ AllOps F (k + 1) r
theorem AllOps.at_ {F : Nat → Oper → Prop} : ∀ {l : List Oper} {k i : Nat} {o : Oper}, AllOps F k l → l[i]? = some o → F (k + i) o
  | [], _, _, _, _, h => by simp at h
  | x :: l, k, 0, o, h, hx => by
    obtain rfl : x = o := by simpa using hx
    exact h.1
  | x :: l, k, i + 1, o, h, hx => by
    have := AllOps.at_ (i := i) h.2 (by simpa using hx)
    rwa [show k + 1 + i = k + (i + 1) from by omega] at this
theorem AllOps.of {F : Nat → Oper → Prop} {l : List Oper} (h : AllOps F 0 l) : ∀ i o, l.toArray[i]? = some o → F i o := fun i o ho => by
  have := AllOps.at_ (i := i) h (by simpa using ho)
  rwa [Nat.zero_add] at this
def updV (xs : Nat → Value) (i : Nat) (v : Value) : Nat → Value := fun j => if j = i then v else xs j
theorem cond_set {C : Nat → World → Value → Prop} {w w1 : World} {listed : Array Bool} {xs : Nat → Value} {i : Nat} {v : Value} (hC : ∀ j, listed.getD j false = true → C j w (xs j)) (hm : ∀ j v, C j w v → C j w1 v) (hv : C i w1 v) :
    ∀ j, (listed.setIfInBounds i true).getD j false = true → C j w1 (updV xs i v j) := fun j hj => by
  unfold updV
  by_cases h : j = i
  · rw [if_pos h, h]; exact hv
  · rw [getD_set_other _ (fun e => h e.symm)] at hj
    rw [if_neg h]; exact hm _ _ (hC j hj)
end Go.Proofs.YtnkhdofcmanipaaGreatDoor

/- Counting what a drawn region has still to call. Over any program. -/
namespace Go.Proofs.YtnkhdofcmanipaaGreatDoor
open Go.RowKit
set_option linter.unusedVariables false

def remL : List Nat → Array Bool → Nat
  | [], _ => 0
  | i :: r, L => (if L.getD i false then 0 else 1) + remL r L
theorem remL_set {i : Nat} {L : Array Bool} : ∀ {cs : List Nat}, i ∉ cs → remL cs (L.setIfInBounds i true) = remL cs L
  | [], _ => rfl
  | j :: r, h => by
    unfold remL
    rw [getD_set_other _ (fun e => h (by simp [e])), remL_set (fun hm => h (by simp [hm]))]
theorem remL_call {i : Nat} {L : Array Bool} (h : L.getD i true = false) : ∀ {cs : List Nat}, i ∈ cs → cs.Nodup → remL cs (L.setIfInBounds i true) + 1 = remL cs L
  | [], hm, _ => by cases hm
  | j :: r, hm, hn => by
    rw [List.nodup_cons] at hn
    have his : i < L.size := by
      rcases Nat.lt_or_ge i L.size with h' | h'
      · exact h'
      · rw [Array.getD_eq_getD_getElem?, Array.getElem?_eq_none h'] at h; cases h
    have hf : L.getD i false = false := by rw [Array.getD_eq_getD_getElem?, Array.getElem?_eq_getElem his] at h ⊢; exact h
    unfold remL
    by_cases e : i = j
    · subst e
      rw [getD_set_self', if_pos his, remL_set hn.1, hf]
      simp; omega
    · rw [getD_set_other _ e]
      rcases List.mem_cons.1 hm with e2 | hm2
      · exact absurd e2 e
      · have := remL_call h hm2 hn.2
        omega
theorem remL_le (L : Array Bool) : ∀ cs : List Nat, remL cs L ≤ cs.length
  | [] => Nat.le_refl _
  | j :: r => by
    have := remL_le L r
    unfold remL
    rw [List.length_cons]
    split <;> omega
def depOK (i : Nat) (o : Oper) : Bool := o.after.toList.all fun e => (!Region.binds .any e || decide (e.on < i))
/-- where nothing is ready any more all is carried out, if all waits for what stands ahead of it -/
theorem all_listed {ops : List Oper} {listed : Array Bool} (hs : listed.size = ops.toArray.size) (hr : Region.ready .any ops.toArray listed = []) (hd : AllOps (fun i o => depOK i o = true) 0 ops) : ∀ i, i < ops.toArray.size → listed.getD i false = true := by
  have key : ∀ m i, i < m → i < ops.toArray.size → listed.getD i false = true := by
    intro m
    induction m with
    | zero => intro i h; omega
    | succ m ih =>
      intro i him hi
      cases e : listed.getD i false
      · exfalso
        have e1 : listed.getD i true = false := by
          have his : i < listed.size := by omega
          rw [Array.getD_eq_getD_getElem?, Array.getElem?_eq_getElem his] at e ⊢; exact e
        have ho : ops.toArray[i]? = some ops.toArray[i] := Array.getElem?_eq_getElem hi
        have hdo : depOK i ops.toArray[i] = true := AllOps.of hd i _ ho
        have hm : i ∈ Region.ready .any ops.toArray listed := mem_ready.2 ⟨e1, _, ho, fun ed hed hb => by
          unfold depOK at hdo
          have h1 := List.all_eq_true.1 hdo ed (by simpa using hed)
          rw [hb] at h1
          have h2 : ed.on < i := by simpa using h1
          exact ih ed.on (by omega) (by omega)⟩
        rw [hr] at hm
        cases hm
      · rfl
  exact fun i hi => key (i + 1) i (by omega) hi
/-- the slots' values are known -/
def CV (vs : List (Option Value)) (j : Nat) (_ : World) (v : Value) : Prop := ∀ u, vs[j]? = some (some u) → v = u
theorem CV.of {vs : List (Option Value)} {j : Nat} {w : World} {v u : Value} (h : vs[j]? = some (some u)) (hv : v = u) : CV vs j w v := fun u' h' => by rw [h] at h'; injection h' with h'; injection h' with h'; rw [hv, h']
theorem CV.free {vs : List (Option Value)} {j : Nat} {w : World} {v : Value} (h : vs[j]? = some none) : CV vs j w v := fun u' h' => by rw [h] at h'; cases h'
end Go.Proofs.YtnkhdofcmanipaaGreatDoor

/- A drawn region in which one element is appended to a row of one's own (which a load or a call of the region gives), and where the new slice may be stored. Over any program. -/
namespace Go.Proofs.YtnkhdofcmanipaaGreatDoor
open Go.RowKit
set_option linter.unusedVariables false

theorem rep_falseA (n j : Nat) : (Array.replicate n false).getD j false = false := by
  rw [Array.getD_eq_getD_getElem?, Array.getElem?_replicate]; split <;> rfl
theorem getD_tf {L : Array Bool} {i : Nat} (h : L.getD i true = false) : L.getD i false = false := by
  rw [Array.getD_eq_getD_getElem?] at h ⊢
  cases hx : L[i]? with
  | none => rfl
  | some b => rw [hx] at h; simpa using h
theorem getD_now {L : Array Bool} {i : Nat} (h : L.getD i true = false) : (L.setIfInBounds i true).getD i false = true := by
  have his : i < L.size := by
    rcases Nat.lt_or_ge i L.size with h' | h'
    · exact h'
    · rw [Array.getD_eq_getD_getElem?, Array.getElem?_eq_none h'] at h; cases h
  rw [getD_set_self', if_pos his]
/-- U: the operation that gives the row; B: the one that lays the new element; A: the append; S: the store (any number that no operation bears: there is none). xl: what the row holds; y: the new element; p: where the new slice is stored -/
structure ApSt (base : Nat) (e : TypeId) (sz n : Nat) (xl y : List Value) (wS : World) (U B A S : Nat) (p : Addr) (listed : Array Bool) (xs : Nat → Value) (w' : World) : Prop where
  pre : listed.getD A false = false → listed.getD S false = false ∧ Below wS.heap.size wS w' ∧ (listed.getD U false = true → w'.ownsRow base e sz (xs U) n xl) ∧ (listed.getD B false = true → ∃ z, xs B = .slice (some ⟨z, 0, none⟩) 1 1 ∧ w'.heap[z]? = some (.cells y.toArray e (0, 0)))
  mid : listed.getD A false = true → (listed.getD U false = true ∧ listed.getD B false = true) ∧ ∃ w1 w2 g cap, Below wS.heap.size wS w1 ∧ w1.ownsRow base e sz (xs U) n xl ∧ xs A = .slice (some ⟨g, 0, none⟩) (n + 1) cap ∧ w2.ownsRow base e sz (.slice (some ⟨g, 0, none⟩) (n + 1) cap) (n + 1) (xl ++ y) ∧ w1.grownBy w2 (xs U).ownBlock ∧ ((xs U).ownBlock = some g ∨ w1.heap.size = g) ∧ w' = if listed.getD S false = true then w2.setCell p (.slice (some ⟨g, 0, none⟩) (n + 1) cap) else w2
  low : ∀ q, q < base → q < wS.heap.size → q ≠ p.block → w'.heap[q]? = wS.heap[q]?
  typ : ∀ q cs t fz, t ≠ e → q ≠ p.block → wS.heap[q]? = some (.cells cs t fz) → w'.heap[q]? = some (.cells cs t fz)
section
variable {base : Nat} {e : TypeId} {sz n : Nat} {xl y : List Value} {wS : World} {U B A S : Nat} {p : Addr} {listed : Array Bool} {xs : Nat → Value} {w' w1 : World} {i : Nat} {v : Value}
theorem ApSt.start {m : Nat} : ApSt base e sz n xl y wS U B A S p (Array.replicate m false) xs wS :=
  ⟨fun _ => ⟨rep_falseA _ _, Below.refl _ _, fun h => by rw [rep_falseA] at h; (cases h), fun h => by rw [rep_falseA] at h; (cases h)⟩, fun h => (by rw [rep_falseA] at h; (cases h)), fun _ _ _ _ => rfl, fun _ _ _ _ _ _ h => h⟩
/-- an operation that neither turns the world nor is one of the four -/
theorem ApSt.keep (h : ApSt base e sz n xl y wS U B A S p listed xs w') (hU : i ≠ U) (hB : i ≠ B) (hA : i ≠ A) (hS : i ≠ S) : ApSt base e sz n xl y wS U B A S p (listed.setIfInBounds i true) (updV xs i v) w' := by
  have e1 : ∀ j, i ≠ j → (listed.setIfInBounds i true).getD j false = listed.getD j false := fun j hj => getD_set_other _ hj
  have e2 : ∀ j, i ≠ j → updV xs i v j = xs j := fun j hj => by unfold updV; rw [if_neg (fun e => hj e.symm)]
  refine ⟨fun ha => ?_, fun ha => ?_, h.low, h.typ⟩
  · rw [e1 A hA] at ha
    rw [e1 S hS, e1 U hU, e1 B hB, e2 U hU, e2 B hB]
    exact h.pre ha
  · rw [e1 A hA] at ha
    rw [e1 S hS, e1 U hU, e1 B hB, e2 U hU, e2 A hA]
    exact h.mid ha
/-- what the append leans on is carried out ahead of it -/
theorem ApSt.early (h : ApSt base e sz n xl y wS U B A S p listed xs w') (h0 : listed.getD i true = false) (hd : i = U ∨ i = B) : listed.getD A false = false := by
  cases ha : listed.getD A false with
  | false => rfl
  | true =>
    have h1 := (h.mid ha).1
    have h2 := getD_tf h0
    rcases hd with rfl | rfl
    · rw [h1.1] at h2; cases h2
    · rw [h1.2] at h2; cases h2
theorem ApSt.below (h : ApSt base e sz n xl y wS U B A S p listed xs w') (h0 : listed.getD U true = false) : Below wS.heap.size wS w' := (h.pre (h.early h0 (.inl rfl))).2.1
/-- the operation that gives the row: a load or a call -/
theorem ApSt.row (h : ApSt base e sz n xl y wS U B A S p listed xs w') (h0 : listed.getD U true = false) (hB : Below w'.heap.size w' w1) (ho : w1.ownsRow base e sz v n xl) (hUB : U ≠ B) (hUA : U ≠ A) (hUS : U ≠ S) : ApSt base e sz n xl y wS U B A S p (listed.setIfInBounds U true) (updV xs U v) w1 := by
  have e1 : ∀ j, U ≠ j → (listed.setIfInBounds U true).getD j false = listed.getD j false := fun j hj => getD_set_other _ hj
  have e2 : ∀ j, U ≠ j → updV xs U v j = xs j := fun j hj => by unfold updV; rw [if_neg (fun e => hj e.symm)]
  have hA := h.early h0 (.inl rfl)
  obtain ⟨a1, a2, a3, a4⟩ := h.pre hA
  refine ⟨fun _ => ⟨by rw [e1 S hUS]; exact a1, below_next a2 hB, fun _ => by unfold updV; rw [if_pos rfl]; exact ho, fun hb => ?_⟩, fun ha => (by rw [e1 A hUA, hA] at ha; (cases ha)), fun q h1 h2 h3 => ?_, fun q cs t fz h1 h2 h3 => blk_below (h.typ q cs t fz h1 h2 h3) hB⟩
  · rw [e1 B hUB] at hb
    rw [e2 B hUB]
    obtain ⟨z, q1, q2⟩ := a4 hb
    exact ⟨z, q1, blk_below q2 hB⟩
  · rw [← h.low q h1 h2 h3]
    exact hB.block q (Nat.lt_of_lt_of_le h2 a2.size)
/-- the append -/
theorem ApSt.app (h : ApSt base e sz n xl y wS U B A S p listed xs w') (h0 : listed.getD A true = false) (hU : listed.getD U false = true) (hB : listed.getD B false = true) (hUA : U ≠ A) (hBA : B ≠ A) (hSA : S ≠ A) :
    w'.ownsRow base e sz (xs U) n xl ∧ Below wS.heap.size wS w' ∧ ∃ z, xs B = .slice (some ⟨z, 0, none⟩) 1 1 ∧ w'.heap[z]? = some (.cells y.toArray e (0, 0)) ∧
    ∀ g cap w2, w2.ownsRow base e sz (.slice (some ⟨g, 0, none⟩) (n + 1) cap) (n + 1) (xl ++ y) → w'.grownBy w2 (xs U).ownBlock → ((xs U).ownBlock = some g ∨ g = w'.heap.size) → ApSt base e sz n xl y wS U B A S p (listed.setIfInBounds A true) (updV xs A (.slice (some ⟨g, 0, none⟩) (n + 1) cap)) w2 := by
  have e1 : ∀ j, A ≠ j → (listed.setIfInBounds A true).getD j false = listed.getD j false := fun j hj => getD_set_other _ hj
  obtain ⟨a1, a2, a3, a4⟩ := h.pre (getD_tf h0)
  obtain ⟨z, q1, q2⟩ := a4 hB
  have hown := a3 hU
  refine ⟨hown, a2, z, q1, q2, fun g cap w2 ho hg hat => ⟨fun ha => (by rw [getD_now h0] at ha; (cases ha)), fun _ => ⟨⟨by rw [e1 U (fun e => hUA e.symm)]; exact hU, by rw [e1 B (fun e => hBA e.symm)]; exact hB⟩, w', w2, g, cap, a2, ?_, by unfold updV; rw [if_pos rfl], ho, ?_, ?_, ?_⟩, fun q h1 h2 h3 => ?_, fun q cs t fz h1 h2 h3 => ?_⟩⟩
  · unfold updV; rw [if_neg hUA]; exact hown
  · unfold updV; rw [if_neg hUA]; exact hg
  · unfold updV; rw [if_neg hUA]
    rcases hat with h1 | h1
    · exact .inl h1
    · exact .inr h1.symm
  · rw [e1 S (fun e => hSA e.symm), a1]; rfl
  · rw [← h.low q h1 h2 h3]
    exact hg.block q (Nat.lt_of_lt_of_le h2 a2.size) (fun e2 => by have := (hown.lt q e2.symm).1; omega)
  · have hq := h.typ q cs t fz h1 h2 h3
    refine blk_grown hq hg (fun e2 => ?_)
    rcases hown.2 with ⟨e3, _⟩ | ⟨g9, cap9, cur9, e3, _, e4, _⟩
    · rw [e3] at e2; simp [Value.ownBlock] at e2
    · rw [e3] at e2
      simp only [Value.ownBlock, Option.some.injEq] at e2
      subst e2
      rw [hq] at e4
      injection e4 with e4
      injection e4 with _ e4
      exact h1 e4
/-- the store of the new slice -/
theorem ApSt.store (h : ApSt base e sz n xl y wS U B A S p listed xs w') (h0 : listed.getD S true = false) (hAl : listed.getD A false = true) (hUS : U ≠ S) (hBS : B ≠ S) (hAS : A ≠ S) :
    ∃ w1 g cap, Below wS.heap.size wS w1 ∧ w1.ownsRow base e sz (xs U) n xl ∧ w1.grownBy w' (xs U).ownBlock ∧ xs A = .slice (some ⟨g, 0, none⟩) (n + 1) cap ∧ (∀ v, ApSt base e sz n xl y wS U B A S p (listed.setIfInBounds S true) (updV xs S v) (w'.setCell p (.slice (some ⟨g, 0, none⟩) (n + 1) cap))) := by
  have e1 : ∀ j, S ≠ j → (listed.setIfInBounds S true).getD j false = listed.getD j false := fun j hj => getD_set_other _ hj
  obtain ⟨h1, w1, w2, g, cap, b1, b2, b3, b4, b5, b6, b7⟩ := h.mid hAl
  rw [getD_tf h0] at b7
  have b7 : w' = w2 := b7
  subst b7
  refine ⟨w1, g, cap, b1, b2, b5, b3, fun v => ⟨fun ha => (by rw [e1 A (fun e => hAS e.symm), hAl] at ha; (cases ha)), fun _ => ⟨⟨by rw [e1 U (fun e => hUS e.symm)]; exact h1.1, by rw [e1 B (fun e => hBS e.symm)]; exact h1.2⟩, w1, w', g, cap, b1, ?_, ?_, b4, ?_, ?_, ?_⟩, fun q h1 h2 h3 => (Below.heap_setCell w' _ _ q h3).trans (h.low q h1 h2 h3), fun q cs t fz h1 h2 h3 => (Below.heap_setCell w' _ _ q h2).trans (h.typ q cs t fz h1 h2 h3)⟩⟩
  · unfold updV; rw [if_neg hUS]; exact b2
  · unfold updV; rw [if_neg hAS]; exact b3
  · unfold updV; rw [if_neg hUS]; exact b5
  · unfold updV; rw [if_neg hUS]; exact b6
  · rw [getD_now h0]; rfl
/-- all is carried out, the store too -/
theorem ApSt.done (h : ApSt base e sz n xl y wS U B A S p listed xs w') (hA : listed.getD A false = true) (hS : listed.getD S false = true) : ∃ w1 w2 g cap, Below wS.heap.size wS w1 ∧ w1.ownsRow base e sz (xs U) n xl ∧ xs A = .slice (some ⟨g, 0, none⟩) (n + 1) cap ∧ w2.ownsRow base e sz (.slice (some ⟨g, 0, none⟩) (n + 1) cap) (n + 1) (xl ++ y) ∧ w1.grownBy w2 (xs U).ownBlock ∧ ((xs U).ownBlock = some g ∨ w1.heap.size = g) ∧ w' = w2.setCell p (.slice (some ⟨g, 0, none⟩) (n + 1) cap) := by
  obtain ⟨h1, w1, w2, g, cap, b1, b2, b3, b4, b5, b6, b7⟩ := h.mid hA
  rw [if_pos hS] at b7
  exact ⟨w1, w2, g, cap, b1, b2, b3, b4, b5, b6, b7⟩
end
end Go.Proofs.YtnkhdofcmanipaaGreatDoor
