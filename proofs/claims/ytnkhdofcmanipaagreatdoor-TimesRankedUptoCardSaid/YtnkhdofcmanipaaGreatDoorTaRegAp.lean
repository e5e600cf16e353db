import Derived.Test.YtnkhdofcmanipaaGreatDoorTaStructs
import Derived.Test.YtnkhdofcmanipaaGreatDoorTaStream
import Derived.Maps.AppendAt
import Derived.Orders
import Derived.RegionTactic
import Derived.WalkKit
import Derived.Deep.AppendLies
/- Two rows of int of the call's own, side by side, beside a stream and a race in a cell. Over any program. -/
namespace Go.Proofs.YtnkhdofcmanipaaGreatDoor
open Go.RowKit
set_option linter.unusedVariables false

section
variable {P : Program} {w : World}
/-- append of one element, with the new row's whereabouts -/
theorem wpList_appAt {ops : Array Oper} {rest : List Oper} {o : Oper} {a : Act} {Q : Exit → Act → World → Prop} (hgd : o.guard = none) (s x : Operand) (t : TypeId)
    (ho : o.op = .call { callee := .builtin .append, args := #[s, x], argTypes := #[t, t] })
    {e : TypeId} {z : Value} {size bytes : Nat} (ht : P.underlying t = some (.slice e)) (hinfo : (P.info? e).map (fun i => (i.zero, i.size, i.bytes)) = some (some z, size, bytes))
    (hzs : z.cells.size = size) (hsz : 0 < size) (hby : bytes ≤ 1024)
    {base : Nat} {v : Value} {n : Nat} {xs : List Value} (hown : w.ownsRow base e size v n xs) (hs : a.eval s = v)
    {cs : Array Value} {b c : Nat} (hx : a.eval x = .slice (some ⟨b, 0, none⟩) 1 c) (hb : w.heap.size = b)
    (hcs : cs.size = size) (h1 : ∀ u ∈ cs.toList, u.oneCell' = true) (hn : n ≤ 1000000) (hbase : base ≤ w.heap.size)
    (h : ∀ v' w', w'.ownsRow base e size v' (n + 1) (xs ++ cs.toList) → w.grownBy w' v.ownBlock → (v'.ownBlock = v.ownBlock ∨ ∃ q, v'.ownBlock = some q ∧ w.heap.size ≤ q) → wpList P ops Q rest (a.put o.dst v') w') :
    wpList P ops Q (o :: rest) a (w.alloc (.cells cs e)) := by
  subst hb
  obtain ⟨i, hi, hz0, hz1, hz2⟩ := info_parts hinfo
  have hm : (n + 1) * bytes ≤ 1000001 * 1024 := Nat.mul_le_mul (by omega) hby
  refine wpList_append_own_at (w.alloc (.cells cs e)) hgd s x t ho base e i z size bytes ht hi hz0 hz1 hz2 hzs hsz v n xs hs (hown.alloc _) ⟨w.heap.size, 0, none⟩ 1 c cs.toList hx ?_ ?_ h1 ?_ ?_ ?_ ?_
  · simp [hcs]
  · intro j u hj
    have hadd : (⟨w.heap.size, 0, none⟩ : Addr).add j = ⟨w.heap.size, j, none⟩ := by unfold Addr.add; split <;> simp_all
    rw [hadd]
    exact blk_cell (heap_alloc_new w _) j (by simpa using hj)
  · unfold maxLen; omega
  · omega
  · simp; omega
  · intro v' w' hown' hg _ hat
    have hsize : (w.alloc (.cells cs e)).heap.size = w.heap.size + 1 := by simp
    refine h v' w' hown' ?_ ?_
    · exact ⟨hg.os, hg.tape, hg.output, by have := hg.size; omega, fun k hk hne => (hg.block k (by omega) hne).trans (Below.heap_alloc w _ k hk)⟩
    · rcases hat with h1 | h1
      · exact .inl h1
      · exact .inr ⟨_, h1, by omega⟩
end

def Dis (v1 v2 : Value) : Prop := ∀ i, v1.ownBlock = some i → v2.ownBlock = some i → False
theorem Dis.symm {v1 v2 : Value} (h : Dis v1 v2) : Dis v2 v1 := fun i h1 h2 => h i h2 h1
theorem Dis.ne {v1 v2 : Value} (h : Dis v1 v2) : v2.ownBlock = none ∨ v2.ownBlock ≠ v1.ownBlock := by
  cases hv : v2.ownBlock with
  | none => exact .inl rfl
  | some i => exact .inr (fun e => h i e.symm hv)
structure D3 (w : World) (b4 base : Nat) (cs : Array Value) (zs : Zs) (u1 u2 : Value) (n1 n2 : Nat) (l1 l2 : List Int) (k : Nat) (wx : World) : Prop where
  o1 : wx.ownsRow base 3 1 u1 n1 (ints l1)
  o2 : wx.ownsRow base 3 1 u2 n2 (ints l2)
  dis : Dis u1 u2
  st : St wx w.heap.size zs k
  rc : wx.heap[b4]? = some (.cells cs 51 (0, 0))
  b4l : b4 < base
  gl : w.heap.size < base
  bs : base ≤ wx.heap.size
  bel : Below w.heap.size w wx

section
variable {w wx w' : World} {b4 base : Nat} {cs : Array Value} {zs : Zs} {u1 u2 : Value} {n1 n2 : Nat} {l1 l2 : List Int} {k : Nat}
theorem D3.below (h : D3 w b4 base cs zs u1 u2 n1 n2 l1 l2 k wx) (B : Below wx.heap.size wx w') : D3 w b4 base cs zs u1 u2 n1 n2 l1 l2 k w' :=
  ⟨own_below h.o1 B, own_below h.o2 B, h.dis, h.st.below B, blk_below h.rc B, h.b4l, h.gl, Nat.le_trans h.bs B.size, below_next h.bel B⟩
theorem D3.alloc (h : D3 w b4 base cs zs u1 u2 n1 n2 l1 l2 k wx) (o : Obj) : D3 w b4 base cs zs u1 u2 n1 n2 l1 l2 k (wx.alloc o) := h.below (below_new wx o)
theorem D3.drewN (h : D3 w b4 base cs zs u1 u2 n1 n2 l1 l2 k wx) (q : Nat) : D3 w b4 base cs zs u1 u2 n1 n2 l1 l2 k (wx.drewN q) := h.below (below_drewN (Below.refl _ _) q)
theorem D3.drew (h : D3 w b4 base cs zs u1 u2 n1 n2 l1 l2 k wx) : D3 w b4 base cs zs u1 u2 n1 n2 l1 l2 k wx.drew := ⟨h.o1, h.o2, h.dis, h.st, h.rc, h.b4l, h.gl, h.bs, ⟨h.bel.os, h.bel.tape, h.bel.output, h.bel.size, h.bel.block⟩⟩
theorem D3.stream {k' : Nat} (h : D3 w b4 base cs zs u1 u2 n1 n2 l1 l2 k wx) (hs : St w' w.heap.size zs k') (hg : wx.grownBy w' (some w.heap.size)) : D3 w b4 base cs zs u1 u2 n1 n2 l1 l2 k' w' :=
  ⟨own_keep h.o1 h.gl hg, own_keep h.o2 h.gl hg, h.dis, hs, h.st.keep hg b4 cs _ (0, 0) (by decide) h.rc, h.b4l, h.gl, Nat.le_trans h.bs hg.size, h.bel.trans (grown_below hg (Nat.le_refl _) h.bel.size)⟩
theorem D3.flip (h : D3 w b4 base cs zs u1 u2 n1 n2 l1 l2 k wx) : D3 w b4 base cs zs u2 u1 n2 n1 l2 l1 k wx := ⟨h.o2, h.o1, h.dis.symm, h.st, h.rc, h.b4l, h.gl, h.bs, h.bel⟩
theorem D3.app1 {v' : Value} {m : Nat} {l' : List Int} (h : D3 w b4 base cs zs u1 u2 n1 n2 l1 l2 k wx) (ho : w'.ownsRow base 3 1 v' m (ints l')) (hg : wx.grownBy w' u1.ownBlock) (hat : v'.ownBlock = u1.ownBlock ∨ ∃ q, v'.ownBlock = some q ∧ wx.heap.size ≤ q) : D3 w b4 base cs zs v' u2 m n2 l' l2 k w' := by
  have hb : ∀ i, u1.ownBlock = some i → base ≤ i := own_row_lt h.o1
  refine ⟨ho, h.o2.kept hg h.dis.ne, ?_, h.st.grown hg (fun i hi => by have := hb i hi; have := h.gl; omega), blk_grown h.rc hg (fun e => by have := hb _ e.symm; have := h.b4l; omega), h.b4l, h.gl, Nat.le_trans h.bs hg.size, below_own h.bel h.o1 hg h.bel.size (Nat.le_of_lt h.gl)⟩
  intro i h1 h2
  rcases hat with e | ⟨q, e, hq⟩
  · exact h.dis i (e ▸ h1) h2
  · rw [e] at h1
    injection h1 with h1
    have := (h.o2.lt i h2).2
    omega
theorem D3.app2 {v' : Value} {m : Nat} {l' : List Int} (h : D3 w b4 base cs zs u1 u2 n1 n2 l1 l2 k wx) (ho : w'.ownsRow base 3 1 v' m (ints l')) (hg : wx.grownBy w' u2.ownBlock) (hat : v'.ownBlock = u2.ownBlock ∨ ∃ q, v'.ownBlock = some q ∧ wx.heap.size ≤ q) : D3 w b4 base cs zs u1 v' n1 m l1 l' k w' := (h.flip.app1 ho hg hat).flip
theorem D3.lt1 {b c : Nat} (h : D3 w b4 base cs zs (.slice (some ⟨b, 0, none⟩) n1 c) u2 n1 n2 l1 l2 k wx) : b < wx.heap.size := (h.o1.lt b rfl).2
theorem D3.r1 {A : Option Addr} {c : Nat} (h : D3 w b4 base cs zs (.slice A n1 c) u2 n1 n2 l1 l2 k wx) (hn : n1 ≤ 1000) : RI 3 wx A n1 l1 := R1.of_own h.o1 (le_big hn)
theorem D3.r2 {A : Option Addr} {c : Nat} (h : D3 w b4 base cs zs u1 (.slice A n2 c) n1 n2 l1 l2 k wx) (hn : n2 ≤ 1000) : RI 3 wx A n2 l2 := R1.of_own h.o2 (le_big hn)
end
end Go.Proofs.YtnkhdofcmanipaaGreatDoor

/- A region that draws its order, by an invariant: it is shown once for each operation, not once for each order. Over any program. -/
namespace Go.Proofs.YtnkhdofcmanipaaGreatDoor
open Go.RowKit
set_option linter.unusedVariables false

theorem getD_set_self' {listed : Array Bool} {i : Nat} (b : Bool) : (listed.setIfInBounds i true).getD i b = (if i < listed.size then true else b) := by
  rw [Array.getD_eq_getD_getElem?, Array.getElem?_setIfInBounds_self]
  split <;> simp
theorem getD_set_other {listed : Array Bool} {i j : Nat} (b : Bool) (h : i ≠ j) : (listed.setIfInBounds i true).getD j b = listed.getD j b := by
  rw [Array.getD_eq_getD_getElem?, Array.getElem?_setIfInBounds_ne h, ← Array.getD_eq_getD_getElem?]
section
variable {P : Program} {ops : Array Oper} {Q : Exit → Act → World → Prop}
end
def AllOps (F : Nat → Oper → Prop) : Nat → List Oper → Prop
  | _, [] => True
  | k, o :: r => F k o ∧ AllOps F (k + 1) r
theorem AllOps.at_ {F : Nat → Oper → Prop} : ∀ {l : List Oper} {k i : Nat} {o : Oper}, AllOps F k l → l[i]? = some o → F (k + i) o
  | [], _, _, _, _, h => by simp at h
  | x :: l, k, 0, o, h, hx => by
    obtain rfl : x = o := by simpa using hx
    exact h.1
  | x :: l, k, i + 1, o, h, hx => by
    have := AllOps.at_ (i := i) h.2 (by simpa using hx)
    rwa [show k + 1 + i = k + (i + 1) from by omega] at this
def updV (xs : Nat → Value) (i : Nat) (v : Value) : Nat → Value := fun j => if j = i then v else xs j
end Go.Proofs.YtnkhdofcmanipaaGreatDoor

/- Counting what a drawn region has still to call. Over any program. -/
namespace Go.Proofs.YtnkhdofcmanipaaGreatDoor
open Go.RowKit
set_option linter.unusedVariables false

def remL : List Nat → Array Bool → Nat
  | [], _ => 0
  | i :: r, L => (if L.getD i false then 0 else 1) + remL r L
theorem remL_set {i : Nat} {L : Array Bool} : ∀ {cs : List Nat}, i ∉ cs → remL cs (L.setIfInBounds i true) = remL cs L
  | [], _ => rfl
  | j :: r, h => by
    unfold remL
    rw [getD_set_other _ (fun e => h (by simp [e])), remL_set (fun hm => h (by simp [hm]))]
theorem remL_call {i : Nat} {L : Array Bool} (h : L.getD i true = false) : ∀ {cs : List Nat}, i ∈ cs → cs.Nodup → remL cs (L.setIfInBounds i true) + 1 = remL cs L
  | [], hm, _ => by cases hm
  | j :: r, hm, hn => by
    rw [List.nodup_cons] at hn
    have his : i < L.size := by
      rcases Nat.lt_or_ge i L.size with h' | h'
      · exact h'
      · rw [Array.getD_eq_getD_getElem?, Array.getElem?_eq_none h'] at h; cases h
    have hf : L.getD i false = false := by rw [Array.getD_eq_getD_getElem?, Array.getElem?_eq_getElem his] at h ⊢; exact h
    unfold remL
    by_cases e : i = j
    · subst e
      rw [getD_set_self', if_pos his, remL_set hn.1, hf]
      simp; omega
    · rw [getD_set_other _ e]
      rcases List.mem_cons.1 hm with e2 | hm2
      · exact absurd e2 e
      · have := remL_call h hm2 hn.2
        omega
end Go.Proofs.YtnkhdofcmanipaaGreatDoor

/- A drawn region in which one element is appended to a row of one's own (which a load or a call of the region gives), and where the new slice may be stored. Over any program. -/
namespace Go.Proofs.YtnkhdofcmanipaaGreatDoor
open Go.RowKit
set_option linter.unusedVariables false

theorem getD_tf {L : Array Bool} {i : Nat} (h : L.getD i true = false) : L.getD i false = false := by
  rw [Array.getD_eq_getD_getElem?] at h ⊢
  cases hx : L[i]? with
  | none => rfl
  | some b => rw [hx] at h; simpa using h
theorem getD_now {L : Array Bool} {i : Nat} (h : L.getD i true = false) : (L.setIfInBounds i true).getD i false = true := by
  have his : i < L.size := by
    rcases Nat.lt_or_ge i L.size with h' | h'
    · exact h'
    · rw [Array.getD_eq_getD_getElem?, Array.getElem?_eq_none h'] at h; cases h
  rw [getD_set_self', if_pos his]
/-- U: the operation that gives the row; B: the one that lays the new element; A: the append; S: the store (any number that no operation bears: there is none). xl: what the row holds; y: the new element; p: where the new slice is stored -/
structure ApSt (base : Nat) (e : TypeId) (sz n : Nat) (xl y : List Value) (wS : World) (U B A S : Nat) (p : Addr) (listed : Array Bool) (xs : Nat → Value) (w' : World) : Prop where
  pre : listed.getD A false = false → listed.getD S false = false ∧ Below wS.heap.size wS w' ∧ (listed.getD U false = true → w'.ownsRow base e sz (xs U) n xl) ∧ (listed.getD B false = true → ∃ z, xs B = .slice (some ⟨z, 0, none⟩) 1 1 ∧ w'.heap[z]? = some (.cells y.toArray e (0, 0)))
  mid : listed.getD A false = true → (listed.getD U false = true ∧ listed.getD B false = true) ∧ ∃ w1 w2 g cap, Below wS.heap.size wS w1 ∧ w1.ownsRow base e sz (xs U) n xl ∧ xs A = .slice (some ⟨g, 0, none⟩) (n + 1) cap ∧ w2.ownsRow base e sz (.slice (some ⟨g, 0, none⟩) (n + 1) cap) (n + 1) (xl ++ y) ∧ w1.grownBy w2 (xs U).ownBlock ∧ ((xs U).ownBlock = some g ∨ w1.heap.size = g) ∧ w' = if listed.getD S false = true then w2.setCell p (.slice (some ⟨g, 0, none⟩) (n + 1) cap) else w2
  low : ∀ q, q < base → q < wS.heap.size → q ≠ p.block → w'.heap[q]? = wS.heap[q]?
  typ : ∀ q cs t fz, t ≠ e → q ≠ p.block → wS.heap[q]? = some (.cells cs t fz) → w'.heap[q]? = some (.cells cs t fz)
section
variable {base : Nat} {e : TypeId} {sz n : Nat} {xl y : List Value} {wS : World} {U B A S : Nat} {p : Addr} {listed : Array Bool} {xs : Nat → Value} {w' w1 : World} {i : Nat} {v : Value}
/-- an operation that neither turns the world nor is one of the four -/
theorem ApSt.keep (h : ApSt base e sz n xl y wS U B A S p listed xs w') (hU : i ≠ U) (hB : i ≠ B) (hA : i ≠ A) (hS : i ≠ S) : ApSt base e sz n xl y wS U B A S p (listed.setIfInBounds i true) (updV xs i v) w' := by
  have e1 : ∀ j, i ≠ j → (listed.setIfInBounds i true).getD j false = listed.getD j false := fun j hj => getD_set_other _ hj
  have e2 : ∀ j, i ≠ j → updV xs i v j = xs j := fun j hj => by unfold updV; rw [if_neg (fun e => hj e.symm)]
  refine ⟨fun ha => ?_, fun ha => ?_, h.low, h.typ⟩
  · rw [e1 A hA] at ha
    rw [e1 S hS, e1 U hU, e1 B hB, e2 U hU, e2 B hB]
    exact h.pre ha
  · rw [e1 A hA] at ha
    rw [e1 S hS, e1 U hU, e1 B hB, e2 U hU, e2 A hA]
    exact h.mid ha
/-- what the append leans on is carried out ahead of it -/
theorem ApSt.early (h : ApSt base e sz n xl y wS U B A S p listed xs w') (h0 : listed.getD i true = false) (hd : i = U ∨ i = B) : listed.getD A false = false := by
  cases ha : listed.getD A false with
  | false => rfl
  | true =>
    have h1 := (h.mid ha).1
    have h2 := getD_tf h0
    rcases hd with rfl | rfl
    · rw [h1.1] at h2; cases h2
    · rw [h1.2] at h2; cases h2
theorem ApSt.below (h : ApSt base e sz n xl y wS U B A S p listed xs w') (h0 : listed.getD U true = false) : Below wS.heap.size wS w' := (h.pre (h.early h0 (.inl rfl))).2.1
/-- the operation that gives the row: a load or a call -/
theorem ApSt.row (h : ApSt base e sz n xl y wS U B A S p listed xs w') (h0 : listed.getD U true = false) (hB : Below w'.heap.size w' w1) (ho : w1.ownsRow base e sz v n xl) (hUB : U ≠ B) (hUA : U ≠ A) (hUS : U ≠ S) : ApSt base e sz n xl y wS U B A S p (listed.setIfInBounds U true) (updV xs U v) w1 := by
  have e1 : ∀ j, U ≠ j → (listed.setIfInBounds U true).getD j false = listed.getD j false := fun j hj => getD_set_other _ hj
  have e2 : ∀ j, U ≠ j → updV xs U v j = xs j := fun j hj => by unfold updV; rw [if_neg (fun e => hj e.symm)]
  have hA := h.early h0 (.inl rfl)
  obtain ⟨a1, a2, a3, a4⟩ := h.pre hA
  refine ⟨fun _ => ⟨by rw [e1 S hUS]; exact a1, below_next a2 hB, fun _ => by unfold updV; rw [if_pos rfl]; exact ho, fun hb => ?_⟩, fun ha => (by rw [e1 A hUA, hA] at ha; (cases ha)), fun q h1 h2 h3 => ?_, fun q cs t fz h1 h2 h3 => blk_below (h.typ q cs t fz h1 h2 h3) hB⟩
  · rw [e1 B hUB] at hb
    rw [e2 B hUB]
    obtain ⟨z, q1, q2⟩ := a4 hb
    exact ⟨z, q1, blk_below q2 hB⟩
  · rw [← h.low q h1 h2 h3]
    exact hB.block q (Nat.lt_of_lt_of_le h2 a2.size)
/-- the append -/
theorem ApSt.app (h : ApSt base e sz n xl y wS U B A S p listed xs w') (h0 : listed.getD A true = false) (hU : listed.getD U false = true) (hB : listed.getD B false = true) (hUA : U ≠ A) (hBA : B ≠ A) (hSA : S ≠ A) :
    w'.ownsRow base e sz (xs U) n xl ∧ Below wS.heap.size wS w' ∧ ∃ z, xs B = .slice (some ⟨z, 0, none⟩) 1 1 ∧ w'.heap[z]? = some (.cells y.toArray e (0, 0)) ∧
    ∀ g cap w2, w2.ownsRow base e sz (.slice (some ⟨g, 0, none⟩) (n + 1) cap) (n + 1) (xl ++ y) → w'.grownBy w2 (xs U).ownBlock → ((xs U).ownBlock = some g ∨ g = w'.heap.size) → ApSt base e sz n xl y wS U B A S p (listed.setIfInBounds A true) (updV xs A (.slice (some ⟨g, 0, none⟩) (n + 1) cap)) w2 := by
  have e1 : ∀ j, A ≠ j → (listed.setIfInBounds A true).getD j false = listed.getD j false := fun j hj => getD_set_other _ hj
  obtain ⟨a1, a2, a3, a4⟩ := h.pre (getD_tf h0)
  obtain ⟨z, q1, q2⟩ := a4 hB
  have hown := a3 hU
  refine ⟨hown, a2, z, q1, q2, fun g cap w2 ho hg hat => ⟨fun ha => (by rw [getD_now h0] at ha; (cases ha)), fun _ => ⟨⟨by rw [e1 U (fun e => hUA e.symm)]; exact hU, by rw [e1 B (fun e => hBA e.symm)]; exact hB⟩, w', w2, g, cap, a2, ?_, by unfold updV; rw [if_pos rfl], ho, ?_, ?_, ?_⟩, fun q h1 h2 h3 => ?_, fun q cs t fz h1 h2 h3 => ?_⟩⟩
  · unfold updV; rw [if_neg hUA]; exact hown
  · unfold updV; rw [if_neg hUA]; exact hg
  · unfold updV; rw [if_neg hUA]
    rcases hat with h1 | h1
    · exact .inl h1
    · exact .inr h1.symm
  · rw [e1 S (fun e => hSA e.symm), a1]; rfl
  · rw [← h.low q h1 h2 h3]
    exact hg.block q (Nat.lt_of_lt_of_le h2 a2.size) (fun e2 => by have := (hown.lt q e2.symm).1; omega)
  · have hq := h.typ q cs t fz h1 h2 h3
    refine blk_grown hq hg (fun e2 => ?_)
    rcases hown.2 with ⟨e3, _⟩ | ⟨g9, cap9, cur9, e3, _, e4, _⟩
    · rw [e3] at e2; simp [Value.ownBlock] at e2
    · rw [e3] at e2
      simp only [Value.ownBlock, Option.some.injEq] at e2
      subst e2
      rw [hq] at e4
      injection e4 with e4
      injection e4 with _ e4
      exact h1 e4
/-- all is carried out, the store too -/
theorem ApSt.done (h : ApSt base e sz n xl y wS U B A S p listed xs w') (hA : listed.getD A false = true) (hS : listed.getD S false = true) : ∃ w1 w2 g cap, Below wS.heap.size wS w1 ∧ w1.ownsRow base e sz (xs U) n xl ∧ xs A = .slice (some ⟨g, 0, none⟩) (n + 1) cap ∧ w2.ownsRow base e sz (.slice (some ⟨g, 0, none⟩) (n + 1) cap) (n + 1) (xl ++ y) ∧ w1.grownBy w2 (xs U).ownBlock ∧ ((xs U).ownBlock = some g ∨ w1.heap.size = g) ∧ w' = w2.setCell p (.slice (some ⟨g, 0, none⟩) (n + 1) cap) := by
  obtain ⟨h1, w1, w2, g, cap, b1, b2, b3, b4, b5, b6, b7⟩ := h.mid hA
  rw [if_pos hS] at b7
  exact ⟨w1, w2, g, cap, b1, b2, b3, b4, b5, b6, b7⟩
end
end Go.Proofs.YtnkhdofcmanipaaGreatDoor
