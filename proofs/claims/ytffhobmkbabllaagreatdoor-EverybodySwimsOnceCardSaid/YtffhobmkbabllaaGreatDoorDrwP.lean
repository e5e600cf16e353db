import Derived.Test.YtffhobmkbabllaaGreatDoorTwo
import Derived.Test.YtffhobmkbabllaaGreatDoorRegInv2
import Derived.Deep.AppendLies
/- Rows of names that grow: a block of slices, each of which is a row of one's own. -/
namespace Go.Proofs.YtffhobmkbabllaaGreatDoor
open Go.RowKit
set_option linter.unusedVariables false

theorem own_tr {w w' : World} {base size n : Nat} {e : TypeId} {v : Value} {xs : List Value} (h : w.ownsRow base e size v n xs) (he : ∀ q, v.ownBlock = some q → w'.heap[q]? = w.heap[q]?) : w'.ownsRow base e size v n xs := by
  refine ⟨h.1, ?_⟩
  rcases h.2 with h0 | ⟨g, cap, cur, rfl, h1, h2, h3⟩
  · exact .inl h0
  · exact .inr ⟨g, cap, cur, rfl, h1, (he g rfl).trans h2, h3⟩
/-- the block of one's own row holds cells of its type -/
theorem own_neH {w : World} {base size n b : Nat} {e t : TypeId} {v : Value} {xs : List Value} {cs : Array Value} {fz : Nat × Nat} (h : w.ownsRow base e size v n xs) (hb : w.heap[b]? = some (.cells cs t fz)) (hne : e ≠ t) : v.ownBlock ≠ some b := by
  intro hv
  rcases h.2 with ⟨rfl, _⟩ | ⟨g, cap, cur, rfl, h1, h2, h3⟩
  · simp [Value.ownBlock] at hv
  · simp only [Value.ownBlock, Option.some.injEq] at hv
    subst hv
    rw [hb] at h2
    injection h2 with h2
    injection h2 with _ h2
    exact hne h2.symm
/-- a slice of names, its row one's own -/
structure Hb where
  A : Option Addr
  c : Nat
  l : List ByteArray
def hbE (x : Hb) : Value := .slice x.A x.l.length x.c
def strsH (l : List ByteArray) : List Value := l.map Value.string
/-- in block b lie the slices -/
structure Hts (base b : Nat) (L : List Hb) (w : World) : Prop where
  row : w.heap[b]? = some (.cells (L.map hbE).toArray 76 (0, 0))
  own : ∀ (i : Nat) (x : Hb), L[i]? = some x → w.ownsRow base 9 1 (hbE x) x.l.length (strsH x.l)
  dis : ∀ (i j : Nat) (x y : Hb), i ≠ j → L[i]? = some x → L[j]? = some y → Dis (hbE x) (hbE y)
section
variable {base b i g cap : Nat} {L : List Hb} {w w' w1 : World} {x : Hb} {s : ByteArray}
theorem Hts.below (h : Hts base b L w) (B : Below w.heap.size w w') : Hts base b L w' := ⟨blk_below h.row B, fun i x hx => own_below (h.own i x hx) B, h.dis⟩
theorem Hts.start (n : Nat) (h : w.heap[b]? = some (.cells (Array.replicate n (.slice none 0 0)) 76 (0, 0))) : Hts base b (List.replicate n ⟨none, 0, []⟩) w := by
  refine ⟨?_, fun i x hx => ?_, fun i j x y _ hx _ q hq => ?_⟩
  · rw [h]; congr 2; simp [hbE]
  · have := List.mem_of_getElem? hx
    obtain ⟨_, rfl⟩ := List.mem_replicate.1 this
    exact World.ownsRow_nil _ _ _ _
  · have := List.mem_of_getElem? hx
    obtain ⟨_, rfl⟩ := List.mem_replicate.1 this
    simp [hbE, Value.ownBlock] at hq
theorem Hts.cell (h : Hts base b L w) (hx : L[i]? = some x) : w.cell? ⟨b, i, none⟩ = some (hbE x) := blk_cell h.row i (by simp [hx])
theorem Hts.frozen (h : Hts base b L w) (i : Nat) : w.frozen? ⟨b, i, none⟩ = false := (blk_facts h.row).2 i
theorem Hts.len (h : Hts base b L w) (hx : L[i]? = some x) : i < L.length := (List.getElem?_eq_some_iff.1 hx).1
theorem strs_lenH (l : List ByteArray) : (strsH l).length = l.length := by simp [strsH]
/-- a name is put at the end of one of them -/
theorem Hts.app (h : Hts base b L w) (hx : L[i]? = some x) (ho : w1.ownsRow base 9 1 (.slice (some ⟨g, 0, none⟩) (x.l.length + 1) cap) (x.l.length + 1) (strsH x.l ++ [.string s])) (hg : w.grownBy w1 (hbE x).ownBlock) (hat : (hbE x).ownBlock = some g ∨ w.heap.size = g) :
    Hts base b (L.set i ⟨some ⟨g, 0, none⟩, cap, x.l ++ [s]⟩) (w1.setCell ⟨b, i, none⟩ (.slice (some ⟨g, 0, none⟩) (x.l.length + 1) cap)) := by
  have hil := h.len hx
  have hb1 : w1.heap[b]? = some (.cells (L.map hbE).toArray 76 (0, 0)) := blk_grown h.row hg (fun e => own_neH (h.own i x hx) h.row (by decide) e.symm)
  have hgb : g ≠ b := fun e => own_neH ho (b := g) (e ▸ hb1) (by decide) rfl
  have hr := blk_set hb1 i (.slice (some ⟨g, 0, none⟩) (x.l.length + 1) cap)
  have hset : ∀ q, q ≠ b → (w1.setCell ⟨b, i, none⟩ (.slice (some ⟨g, 0, none⟩) (x.l.length + 1) cap)).heap[q]? = w1.heap[q]? := fun q hq => Below.heap_setCell w1 _ _ q hq
  have hnew : (hbE ⟨some ⟨g, 0, none⟩, cap, x.l ++ [s]⟩) = .slice (some ⟨g, 0, none⟩) (x.l.length + 1) cap := by simp [hbE]
  -- another one's block is not the one that turned
  have hoth : ∀ j y, j ≠ i → L[j]? = some y → ∀ q, (hbE y).ownBlock = some q → q < w.heap.size ∧ q ≠ b ∧ (hbE x).ownBlock ≠ some q ∧ q ≠ g := by
    intro j y hj hy q hq
    have hlt := ((h.own j y hy).lt q hq).2
    refine ⟨hlt, fun e => own_neH (h.own j y hy) h.row (by decide) (e ▸ hq), fun e => h.dis i j x y (fun e2 => hj e2.symm) hx hy q e hq, fun e => ?_⟩
    rcases hat with h1 | h1
    · exact h.dis i j x y (fun e2 => hj e2.symm) hx hy q (e ▸ h1) hq
    · omega
  refine ⟨?_, ?_, ?_⟩
  · rw [hr]
    congr 2
    rw [List.setIfInBounds_toArray, List.map_set, hnew]
  · intro j y hy
    by_cases hj : j = i
    · subst hj
      rw [List.getElem?_set_self hil] at hy
      obtain rfl := Option.some.inj hy
      rw [hnew]
      refine own_tr (w := w1) ?_ (fun q hq => hset q ?_)
      · simpa [strsH] using ho
      · simp only [Value.ownBlock, Option.some.injEq] at hq
        rw [← hq]; exact hgb
    · rw [List.getElem?_set_ne (fun e => hj e.symm)] at hy
      refine own_tr (h.own j y hy) (fun q hq => ?_)
      obtain ⟨a1, a2, a3, a4⟩ := hoth j y hj hy q hq
      rw [hset q a2]
      exact hg.block q a1 (fun e => a3 e.symm)
  · intro j k y z hjk hy hz q hq1 hq2
    by_cases hj : j = i
    · subst hj
      rw [List.getElem?_set_self hil] at hy
      obtain rfl := Option.some.inj hy
      rw [List.getElem?_set_ne hjk] at hz
      rw [hnew] at hq1
      simp only [Value.ownBlock, Option.some.injEq] at hq1
      exact (hoth k z (fun e => hjk e.symm) hz q hq2).2.2.2 hq1.symm
    · rw [List.getElem?_set_ne (fun e => hj e.symm)] at hy
      by_cases hk : k = i
      · subst hk
        rw [List.getElem?_set_self hil] at hz
        obtain rfl := Option.some.inj hz
        rw [hnew] at hq2
        simp only [Value.ownBlock, Option.some.injEq] at hq2
        exact (hoth j y hj hy q hq1).2.2.2 hq2.symm
      · rw [List.getElem?_set_ne (fun e => hk e.symm)] at hz
        exact h.dis j k y z hjk hy hz q hq1 hq2
theorem Hts.app_below {w0 : World} (h : Hts base b L w) (hx : L[i]? = some x) (hg : w.grownBy w1 (hbE x).ownBlock) (B : Below w0.heap.size w0 w) (h0 : w0.heap.size ≤ base) (hb : w0.heap.size ≤ b) (v : Value) : Below w0.heap.size w0 (w1.setCell ⟨b, i, none⟩ v) :=
  Below.setCell (below_own B (h.own i x hx) hg B.size h0) hb v
theorem Hts.rs (h : Hts base b L w) (hx : L[i]? = some x) (hn : x.l.length ≤ 140737488355328) : RS 9 w x.A x.l.length x.l := R1.of_own (h.own i x hx) hn
end
end Go.Proofs.YtffhobmkbabllaaGreatDoor

/- A drawn region in which one element is appended to a row of one's own (which a load or a call of the region gives), and where the new slice may be stored. Over any program. -/
namespace Go.Proofs.YtffhobmkbabllaaGreatDoor
open Go.RowKit
set_option linter.unusedVariables false

theorem rep_falseA (n j : Nat) : (Array.replicate n false).getD j false = false := by
  rw [Array.getD_eq_getD_getElem?, Array.getElem?_replicate]; split <;> rfl
theorem getD_size {L : Array Bool} {i : Nat} (h : L.getD i false = true) : i < L.size := by
  rcases Nat.lt_or_ge i L.size with h' | h'
  · exact h'
  · rw [Array.getD_eq_getD_getElem?, Array.getElem?_eq_none h'] at h; cases h
theorem getD_out {L : Array Bool} {i : Nat} (h : L.size ≤ i) : L.getD i false = false := by
  rw [Array.getD_eq_getD_getElem?, Array.getElem?_eq_none h]; rfl
theorem getD_tf {L : Array Bool} {i : Nat} (h : L.getD i true = false) : L.getD i false = false := by
  rw [Array.getD_eq_getD_getElem?] at h ⊢
  cases hx : L[i]? with
  | none => rfl
  | some b => rw [hx] at h; simpa using h
theorem getD_now {L : Array Bool} {i : Nat} (h : L.getD i true = false) : (L.setIfInBounds i true).getD i false = true := by
  have his : i < L.size := by
    rcases Nat.lt_or_ge i L.size with h' | h'
    · exact h'
    · rw [Array.getD_eq_getD_getElem?, Array.getElem?_eq_none h'] at h; cases h
  rw [getD_set_self', if_pos his]
/-- U: the operation that gives the row; B: the one that lays the new element; A: the append; S: the store (any number that no operation bears: there is none). xl: what the row holds; y: the new element; p: where the new slice is stored -/
structure ApSt (base : Nat) (e : TypeId) (sz n : Nat) (xl y : List Value) (wS : World) (U B A S : Nat) (p : Addr) (listed : Array Bool) (xs : Nat → Value) (w' : World) : Prop where
  pre : listed.getD A false = false → listed.getD S false = false ∧ Below wS.heap.size wS w' ∧ (listed.getD U false = true → w'.ownsRow base e sz (xs U) n xl) ∧ (listed.getD B false = true → ∃ z, xs B = .slice (some ⟨z, 0, none⟩) 1 1 ∧ w'.heap[z]? = some (.cells y.toArray e (0, 0)))
  mid : listed.getD A false = true → (listed.getD U false = true ∧ listed.getD B false = true) ∧ ∃ w1 w2 g cap, Below wS.heap.size wS w1 ∧ w1.ownsRow base e sz (xs U) n xl ∧ xs A = .slice (some ⟨g, 0, none⟩) (n + 1) cap ∧ w2.ownsRow base e sz (.slice (some ⟨g, 0, none⟩) (n + 1) cap) (n + 1) (xl ++ y) ∧ w1.grownBy w2 (xs U).ownBlock ∧ ((xs U).ownBlock = some g ∨ w1.heap.size = g) ∧ w' = if listed.getD S false = true then w2.setCell p (.slice (some ⟨g, 0, none⟩) (n + 1) cap) else w2
  low : ∀ q, q < base → q < wS.heap.size → q ≠ p.block → w'.heap[q]? = wS.heap[q]?
  typ : ∀ q cs t fz, t ≠ e → q ≠ p.block → wS.heap[q]? = some (.cells cs t fz) → w'.heap[q]? = some (.cells cs t fz)
section
variable {base : Nat} {e : TypeId} {sz n : Nat} {xl y : List Value} {wS : World} {U B A S : Nat} {p : Addr} {listed : Array Bool} {xs : Nat → Value} {w' w1 : World} {i : Nat} {v : Value}
theorem ApSt.start {m : Nat} : ApSt base e sz n xl y wS U B A S p (Array.replicate m false) xs wS :=
  ⟨fun _ => ⟨rep_falseA _ _, Below.refl _ _, fun h => by rw [rep_falseA] at h; (cases h), fun h => by rw [rep_falseA] at h; (cases h)⟩, fun h => (by rw [rep_falseA] at h; (cases h)), fun _ _ _ _ => rfl, fun _ _ _ _ _ _ h => h⟩
/-- an operation that neither turns the world nor is one of the four -/
theorem ApSt.keep (h : ApSt base e sz n xl y wS U B A S p listed xs w') (hU : i ≠ U) (hB : i ≠ B) (hA : i ≠ A) (hS : i ≠ S) : ApSt base e sz n xl y wS U B A S p (listed.setIfInBounds i true) (updV xs i v) w' := by
  have e1 : ∀ j, i ≠ j → (listed.setIfInBounds i true).getD j false = listed.getD j false := fun j hj => getD_set_other _ hj
  have e2 : ∀ j, i ≠ j → updV xs i v j = xs j := fun j hj => by unfold updV; rw [if_neg (fun e => hj e.symm)]
  refine ⟨fun ha => ?_, fun ha => ?_, h.low, h.typ⟩
  · rw [e1 A hA] at ha
    rw [e1 S hS, e1 U hU, e1 B hB, e2 U hU, e2 B hB]
    exact h.pre ha
  · rw [e1 A hA] at ha
    rw [e1 S hS, e1 U hU, e1 B hB, e2 U hU, e2 A hA]
    exact h.mid ha
/-- what the append leans on is carried out ahead of it -/
theorem ApSt.early (h : ApSt base e sz n xl y wS U B A S p listed xs w') (h0 : listed.getD i true = false) (hd : i = U ∨ i = B) : listed.getD A false = false := by
  cases ha : listed.getD A false with
  | false => rfl
  | true =>
    have h1 := (h.mid ha).1
    have h2 := getD_tf h0
    rcases hd with rfl | rfl
    · rw [h1.1] at h2; cases h2
    · rw [h1.2] at h2; cases h2
theorem ApSt.below (h : ApSt base e sz n xl y wS U B A S p listed xs w') (h0 : listed.getD U true = false) : Below wS.heap.size wS w' := (h.pre (h.early h0 (.inl rfl))).2.1
theorem ApSt.cellLow (h : ApSt base e sz n xl y wS U B A S p listed xs w') {q o : Nat} {u : Value} (hc : wS.cell? ⟨q, o, none⟩ = some u) (h1 : q < base) (h2 : q < wS.heap.size) (h3 : q ≠ p.block) : w'.cell? ⟨q, o, none⟩ = some u := (World.cell?_of_block (h.low q h1 h2 h3)).trans hc
theorem ApSt.blkTyp (h : ApSt base e sz n xl y wS U B A S p listed xs w') {q : Nat} {cs : Array Value} {t : TypeId} (hb : wS.heap[q]? = some (.cells cs t (0, 0))) (h1 : t ≠ e) (h3 : q ≠ p.block) : w'.heap[q]? = some (.cells cs t (0, 0)) := h.typ q cs t (0, 0) h1 h3 hb
/-- the operation that gives the row: a load or a call -/
theorem ApSt.row (h : ApSt base e sz n xl y wS U B A S p listed xs w') (h0 : listed.getD U true = false) (hB : Below w'.heap.size w' w1) (ho : w1.ownsRow base e sz v n xl) (hUB : U ≠ B) (hUA : U ≠ A) (hUS : U ≠ S) : ApSt base e sz n xl y wS U B A S p (listed.setIfInBounds U true) (updV xs U v) w1 := by
  have e1 : ∀ j, U ≠ j → (listed.setIfInBounds U true).getD j false = listed.getD j false := fun j hj => getD_set_other _ hj
  have e2 : ∀ j, U ≠ j → updV xs U v j = xs j := fun j hj => by unfold updV; rw [if_neg (fun e => hj e.symm)]
  have hA := h.early h0 (.inl rfl)
  obtain ⟨a1, a2, a3, a4⟩ := h.pre hA
  refine ⟨fun _ => ⟨by rw [e1 S hUS]; exact a1, below_next a2 hB, fun _ => by unfold updV; rw [if_pos rfl]; exact ho, fun hb => ?_⟩, fun ha => (by rw [e1 A hUA, hA] at ha; (cases ha)), fun q h1 h2 h3 => ?_, fun q cs t fz h1 h2 h3 => blk_below (h.typ q cs t fz h1 h2 h3) hB⟩
  · rw [e1 B hUB] at hb
    rw [e2 B hUB]
    obtain ⟨z, q1, q2⟩ := a4 hb
    exact ⟨z, q1, blk_below q2 hB⟩
  · rw [← h.low q h1 h2 h3]
    exact hB.block q (Nat.lt_of_lt_of_le h2 a2.size)
/-- the new element is laid -/
theorem ApSt.lay (h : ApSt base e sz n xl y wS U B A S p listed xs w') (h0 : listed.getD B true = false) (hUB : U ≠ B) (hBA : B ≠ A) (hBS : B ≠ S) : ApSt base e sz n xl y wS U B A S p (listed.setIfInBounds B true) (updV xs B (.slice (some ⟨w'.heap.size, 0, none⟩) 1 1)) (w'.alloc (.cells y.toArray e)) := by
  have e1 : ∀ j, B ≠ j → (listed.setIfInBounds B true).getD j false = listed.getD j false := fun j hj => getD_set_other _ hj
  have hA := h.early h0 (.inr rfl)
  obtain ⟨a1, a2, a3, a4⟩ := h.pre hA
  have hB := below_new w' (.cells y.toArray e)
  refine ⟨fun _ => ⟨by rw [e1 S hBS]; exact a1, a2.alloc a2.size _, fun hu => ?_, fun _ => ⟨_, by unfold updV; rw [if_pos rfl], heap_alloc_new w' _⟩⟩, fun ha => (by rw [e1 A hBA, hA] at ha; (cases ha)), fun q h1 h2 h3 => ?_, fun q cs t fz h1 h2 h3 => blk_below (h.typ q cs t fz h1 h2 h3) hB⟩
  · rw [e1 U (fun e => hUB e.symm)] at hu
    unfold updV
    rw [if_neg hUB]
    exact own_below (a3 hu) hB
  · rw [← h.low q h1 h2 h3]
    exact hB.block q (Nat.lt_of_lt_of_le h2 a2.size)
/-- the append -/
theorem ApSt.app (h : ApSt base e sz n xl y wS U B A S p listed xs w') (h0 : listed.getD A true = false) (hU : listed.getD U false = true) (hB : listed.getD B false = true) (hUA : U ≠ A) (hBA : B ≠ A) (hSA : S ≠ A) :
    w'.ownsRow base e sz (xs U) n xl ∧ Below wS.heap.size wS w' ∧ ∃ z, xs B = .slice (some ⟨z, 0, none⟩) 1 1 ∧ w'.heap[z]? = some (.cells y.toArray e (0, 0)) ∧
    ∀ g cap w2, w2.ownsRow base e sz (.slice (some ⟨g, 0, none⟩) (n + 1) cap) (n + 1) (xl ++ y) → w'.grownBy w2 (xs U).ownBlock → ((xs U).ownBlock = some g ∨ g = w'.heap.size) → ApSt base e sz n xl y wS U B A S p (listed.setIfInBounds A true) (updV xs A (.slice (some ⟨g, 0, none⟩) (n + 1) cap)) w2 := by
  have e1 : ∀ j, A ≠ j → (listed.setIfInBounds A true).getD j false = listed.getD j false := fun j hj => getD_set_other _ hj
  obtain ⟨a1, a2, a3, a4⟩ := h.pre (getD_tf h0)
  obtain ⟨z, q1, q2⟩ := a4 hB
  have hown := a3 hU
  refine ⟨hown, a2, z, q1, q2, fun g cap w2 ho hg hat => ⟨fun ha => (by rw [getD_now h0] at ha; (cases ha)), fun _ => ⟨⟨by rw [e1 U (fun e => hUA e.symm)]; exact hU, by rw [e1 B (fun e => hBA e.symm)]; exact hB⟩, w', w2, g, cap, a2, ?_, by unfold updV; rw [if_pos rfl], ho, ?_, ?_, ?_⟩, fun q h1 h2 h3 => ?_, fun q cs t fz h1 h2 h3 => ?_⟩⟩
  · unfold updV; rw [if_neg hUA]; exact hown
  · unfold updV; rw [if_neg hUA]; exact hg
  · unfold updV; rw [if_neg hUA]
    rcases hat with h1 | h1
    · exact .inl h1
    · exact .inr h1.symm
  · rw [e1 S (fun e => hSA e.symm), a1]; rfl
  · rw [← h.low q h1 h2 h3]
    exact hg.block q (Nat.lt_of_lt_of_le h2 a2.size) (fun e2 => by have := (hown.lt q e2.symm).1; omega)
  · have hq := h.typ q cs t fz h1 h2 h3
    refine blk_grown hq hg (fun e2 => ?_)
    rcases hown.2 with ⟨e3, _⟩ | ⟨g9, cap9, cur9, e3, _, e4, _⟩
    · rw [e3] at e2; simp [Value.ownBlock] at e2
    · rw [e3] at e2
      simp only [Value.ownBlock, Option.some.injEq] at e2
      subst e2
      rw [hq] at e4
      injection e4 with e4
      injection e4 with _ e4
      exact h1 e4
/-- the store of the new slice -/
theorem ApSt.store (h : ApSt base e sz n xl y wS U B A S p listed xs w') (h0 : listed.getD S true = false) (hAl : listed.getD A false = true) (hUS : U ≠ S) (hBS : B ≠ S) (hAS : A ≠ S) :
    ∃ w1 g cap, Below wS.heap.size wS w1 ∧ w1.ownsRow base e sz (xs U) n xl ∧ w1.grownBy w' (xs U).ownBlock ∧ xs A = .slice (some ⟨g, 0, none⟩) (n + 1) cap ∧ (∀ v, ApSt base e sz n xl y wS U B A S p (listed.setIfInBounds S true) (updV xs S v) (w'.setCell p (.slice (some ⟨g, 0, none⟩) (n + 1) cap))) := by
  have e1 : ∀ j, S ≠ j → (listed.setIfInBounds S true).getD j false = listed.getD j false := fun j hj => getD_set_other _ hj
  obtain ⟨h1, w1, w2, g, cap, b1, b2, b3, b4, b5, b6, b7⟩ := h.mid hAl
  rw [getD_tf h0] at b7
  have b7 : w' = w2 := b7
  subst b7
  refine ⟨w1, g, cap, b1, b2, b5, b3, fun v => ⟨fun ha => (by rw [e1 A (fun e => hAS e.symm), hAl] at ha; (cases ha)), fun _ => ⟨⟨by rw [e1 U (fun e => hUS e.symm)]; exact h1.1, by rw [e1 B (fun e => hBS e.symm)]; exact h1.2⟩, w1, w', g, cap, b1, ?_, ?_, b4, ?_, ?_, ?_⟩, fun q h1 h2 h3 => (Below.heap_setCell w' _ _ q h3).trans (h.low q h1 h2 h3), fun q cs t fz h1 h2 h3 => (Below.heap_setCell w' _ _ q h2).trans (h.typ q cs t fz h1 h2 h3)⟩⟩
  · unfold updV; rw [if_neg hUS]; exact b2
  · unfold updV; rw [if_neg hAS]; exact b3
  · unfold updV; rw [if_neg hUS]; exact b5
  · unfold updV; rw [if_neg hUS]; exact b6
  · rw [getD_now h0]; rfl
/-- all is carried out, the store too -/
theorem ApSt.done (h : ApSt base e sz n xl y wS U B A S p listed xs w') (hA : listed.getD A false = true) (hS : listed.getD S false = true) : ∃ w1 w2 g cap, Below wS.heap.size wS w1 ∧ w1.ownsRow base e sz (xs U) n xl ∧ xs A = .slice (some ⟨g, 0, none⟩) (n + 1) cap ∧ w2.ownsRow base e sz (.slice (some ⟨g, 0, none⟩) (n + 1) cap) (n + 1) (xl ++ y) ∧ w1.grownBy w2 (xs U).ownBlock ∧ ((xs U).ownBlock = some g ∨ w1.heap.size = g) ∧ w' = w2.setCell p (.slice (some ⟨g, 0, none⟩) (n + 1) cap) := by
  obtain ⟨h1, w1, w2, g, cap, b1, b2, b3, b4, b5, b6, b7⟩ := h.mid hA
  rw [if_pos hS] at b7
  exact ⟨w1, w2, g, cap, b1, b2, b3, b4, b5, b6, b7⟩
/-- all is carried out; there is no store -/
theorem ApSt.done0 (h : ApSt base e sz n xl y wS U B A S p listed xs w') (hA : listed.getD A false = true) (hS : listed.getD S false = false) : ∃ w1 g cap, Below wS.heap.size wS w1 ∧ w1.ownsRow base e sz (xs U) n xl ∧ xs A = .slice (some ⟨g, 0, none⟩) (n + 1) cap ∧ w'.ownsRow base e sz (.slice (some ⟨g, 0, none⟩) (n + 1) cap) (n + 1) (xl ++ y) ∧ w1.grownBy w' (xs U).ownBlock ∧ ((xs U).ownBlock = some g ∨ w1.heap.size = g) := by
  obtain ⟨h1, w1, w2, g, cap, b1, b2, b3, b4, b5, b6, b7⟩ := h.mid hA
  rw [if_neg (by rw [hS]; simp)] at b7
  subst b7
  exact ⟨w1, g, cap, b1, b2, b3, b4, b5, b6⟩
end
end Go.Proofs.YtffhobmkbabllaaGreatDoor

/- Rows of names that grow: what stays beside them; a row of names from which the first is taken. -/
namespace Go.Proofs.YtffhobmkbabllaaGreatDoor
open Go.RowKit
set_option linter.unusedVariables false

/-- all but names and slices of names is as it was -/
def KeepS (a v : World) : Prop := ∀ (b : Nat) (cs : Array Value) (e : TypeId) (fz : Nat × Nat), e ≠ 9 → e ≠ 76 → a.heap[b]? = some (.cells cs e fz) → v.heap[b]? = some (.cells cs e fz)
theorem KeepS.of_below {a v : World} (B : Below a.heap.size a v) : KeepS a v := fun b cs e fz _ _ h => (B.block b (lt_of_heap h)).trans h
theorem R1.keepS {α : Type} {enc : α → Value} {e : TypeId} {w w' : World} {A : Option Addr} {n : Nat} {l : List α} (h : R1 enc e w A n l) (h1 : e ≠ 9) (h2 : e ≠ 76) (hk : KeepS w w') : R1 enc e w' A n l :=
  ⟨h.1, h.2.1, fun hn => by
    obtain ⟨b, off, cs, fz, ha, hb, hc⟩ := h.2.2 hn
    exact ⟨b, off, cs, fz, ha, hk b cs e fz h1 h2 hb, hc⟩⟩
theorem RN.keepS {α : Type} {size : Nat} {enc : α → List Value} {e : TypeId} {w w' : World} {A : Option Addr} {n : Nat} {l : List α} (h : RN size enc e w A n l) (h1 : e ≠ 9) (h2 : e ≠ 76) (hk : KeepS w w') : RN size enc e w' A n l :=
  ⟨h.1, h.2.1, fun hn => by
    obtain ⟨b, off, cs, fz, ha, hb, hc⟩ := h.2.2 hn
    exact ⟨b, off, cs, fz, ha, hk b cs e fz h1 h2 hb, hc⟩⟩
/-- rows of names under way, and what stays -/
structure Dr (w : World) (b : Nat) (X : World → Prop) (L : List Hb) (wr : World) : Prop where
  hts : Hts w.heap.size b L wr
  x : X wr
  kp : ∀ a v, X a → KeepS a v → X v
  bel : Below w.heap.size w wr
  zb : w.heap.size ≤ b
section
variable {w wr w1 w' : World} {b i g cap : Nat} {X : World → Prop} {L : List Hb} {x : Hb} {s : ByteArray}
theorem Dr.below (h : Dr w b X L wr) (B : Below wr.heap.size wr w') : Dr w b X L w' := ⟨h.hts.below B, h.kp _ _ h.x (KeepS.of_below B), h.kp, below_next h.bel B, h.zb⟩
theorem Dr.app (h : Dr w b X L wr) (hx : L[i]? = some x) (ho : w1.ownsRow w.heap.size 9 1 (.slice (some ⟨g, 0, none⟩) (x.l.length + 1) cap) (x.l.length + 1) (strsH x.l ++ [.string s])) (hg : wr.grownBy w1 (hbE x).ownBlock) (hat : (hbE x).ownBlock = some g ∨ wr.heap.size = g) :
    Dr w b X (L.set i ⟨some ⟨g, 0, none⟩, cap, x.l ++ [s]⟩) (w1.setCell ⟨b, i, none⟩ (.slice (some ⟨g, 0, none⟩) (x.l.length + 1) cap)) := by
  refine ⟨h.hts.app hx ho hg hat, h.kp _ _ h.x ?_, h.kp, h.hts.app_below hx hg h.bel (Nat.le_refl _) h.zb _, h.zb⟩
  intro q cs e fz h1 h2 hq
  have hq1 : w1.heap[q]? = some (.cells cs e fz) := blk_grown hq hg (fun e2 => own_neH (h.hts.own i x hx) hq (fun e3 => h1 e3.symm) e2.symm)
  refine (Below.heap_setCell w1 _ _ q ?_).trans hq1
  rintro rfl
  have := h.hts.row
  rw [hq] at this
  injection this with this
  injection this with _ this
  exact h2 this
end
/-- a slice of names -/
def WhN (w : World) (u : Value) (l : List ByteArray) : Prop := ∃ A c, u = .slice A l.length c ∧ RS 9 w A l.length l ∧ l.length ≤ c
theorem WhN.below {w w' : World} {u : Value} {l : List ByteArray} (h : WhN w u l) (B : Below w.heap.size w w') : WhN w' u l := by
  obtain ⟨A, c, h1, h2, h3⟩ := h
  exact ⟨A, c, h1, h2.below B, h3⟩
theorem add_offH (b o j : Nat) : (⟨b, o, none⟩ : Addr).add j = ⟨b, o + j, none⟩ := by unfold Addr.add; split <;> simp_all
/-- the first one, and the others -/
theorem WhN.tail {w : World} {u : Value} {s : ByteArray} {r : List ByteArray} (h : WhN w u (s :: r)) : ∃ b off c, u = .slice (some ⟨b, off, none⟩) (r.length + 1) c ∧ b < w.heap.size ∧ w.cell? ⟨b, off, none⟩ = some (.string s) ∧ ∃ u',
    (∀ W, Sem.run Tryz.prog (Instr.sliceAt 76 u (some (.int .i64 1)) none none) W = .ok u' W) ∧ (∀ W, Sem.run Tryz.prog (Instr.slice 76 u (some (.int .i64 1)) none none) W = .ok u' W) ∧ WhN w u' r := by
  obtain ⟨A, c, rfl, h2, h3⟩ := h
  obtain ⟨b, off, x, rfl, hb, hx, hc⟩ := h2.at_ (k := 0) (by simp)
  obtain rfl : s = x := by simpa using hx
  rw [Nat.add_zero] at hc
  have hT := Tryz.underlying76
  have he : Tryz.prog.elem 76 = 9 := by unfold Program.elem; rw [hT]
  have hT2 : Tryz.prog.underlying 76 = some (.slice (Tryz.prog.elem 76)) := by rw [he]; exact hT
  rw [List.length_cons] at h3
  have hr : ∀ W, Sem.run Tryz.prog (Instr.slice 76 (.slice (some ⟨b, off, none⟩) (r.length + 1) c) (some (.int .i64 1)) none none) W = .ok (.slice (if c = 1 then some ⟨b, off, none⟩ else some ⟨b, off + 1, none⟩) r.length (c - 1)) W := fun W => by
    have h9 := run_slice_l (P := Tryz.prog) W 76 (some ⟨b, off, none⟩) (r.length + 1) c hT2 .i64 ((1 : Nat) : Int) (by omega) (by omega)
    rw [he, Tryz.sizeOf9] at h9
    rw [show (1 : Int) = ((1 : Nat) : Int) from rfl, h9]
    simp [Result.andThen, sliced, add_offH]
  refine ⟨b, off, c, rfl, hb, hc, _, fun W => (run_sliceAt_slice W 76 _ _ _ _ hT2).trans (hr W), hr, _, _, rfl, ?_, by omega⟩
  refine ⟨rfl, by have := h2.2.1; rw [List.length_cons] at this; omega, fun hp => ?_⟩
  obtain ⟨b', o', cs, fz, hA, hb', hc'⟩ := h2.2.2 (by simp)
  injection hA with hA
  injection hA with e1 e2
  subst e1 e2
  refine ⟨b, off + 1, cs, fz, if_neg (by omega), hb', fun j y hy => ?_⟩
  have := hc' (j + 1) y (by simpa using hy)
  rw [show off + 1 + j = off + (j + 1) by omega]
  exact this
/-- the others, as the walk writes them -/
theorem WhN.tail2 {w : World} {b off c : Nat} {s : ByteArray} {r : List ByteArray} (h : WhN w (.slice (some ⟨b, off, none⟩) (r.length + 1) c) (s :: r)) : (c = 1 → WhN w (.slice (some ⟨b, off, none⟩) r.length 0) r) ∧ (c ≠ 1 → WhN w (.slice (some ⟨b, off + 1, none⟩) r.length (c - 1)) r) := by
  obtain ⟨A, c', h1, h2, h3⟩ := h
  injection h1 with e1 _ e3
  subst e1 e3
  rw [List.length_cons] at h3
  refine ⟨fun hc => ⟨_, _, rfl, ⟨rfl, by omega, fun hp => by omega⟩, by omega⟩, fun hc => ⟨_, _, rfl, ⟨rfl, by have := h2.2.1; rw [List.length_cons] at this; omega, fun hp => ?_⟩, by omega⟩⟩
  obtain ⟨b', o', cs, fz, hA, hb', hc'⟩ := h2.2.2 (by simp)
  injection hA with hA
  injection hA with e1 e2
  subst e1 e2
  refine ⟨b, off + 1, cs, fz, rfl, hb', fun j y hy => ?_⟩
  have := hc' (j + 1) y (by simpa using hy)
  rw [show off + 1 + j = off + (j + 1) by omega]
  exact this
theorem info_slS : (Tryz.prog.info? 76).map (fun i => (i.zero, i.size, i.bytes)) = some (some (.slice none 0 0), 1, 24) := by kernel_rfl
set_option maxRecDepth 100000 in
theorem mk_rowsH (m : Nat) (hm : m ≤ 100) (W : World) : (Instr.makeSlice 119 (.int .i64 m) (.int .i64 m)).run Tryz.prog W = .ok (.slice (some ⟨W.heap.size, 0, none⟩) m m) (W.alloc (.cells (Array.replicate m (.slice none 0 0)) 76)) := by
  obtain ⟨i, hi, hz0, hz1, hz2⟩ := info_parts info_slS
  have := run_makeSlice (P := Tryz.prog) W 119 76 i _ Tryz.underlying119 hi hz0 .i64 .i64 m m (by omega) (Int.le_refl _) (by rw [hz1]; simp; omega) (by rw [hz2]; omega) (by omega)
  rw [hz1, Nat.mul_one, show (Value.slice none 0 0).cells = #[Value.slice none 0 0] from rfl, show ((m : Int).toNat) = m by omega] at this
  rw [this]
  congr 3
  apply Array.toList_inj.1
  rw [toList_madeCells_one, Array.toList_replicate]
end Go.Proofs.YtffhobmkbabllaaGreatDoor

/- PLAIN: who swims in which heat: the circle of the last heats, then the others. -/
namespace Go.Proofs.YtffhobmkbabllaaGreatDoor
set_option linter.unusedVariables false

section
variable {α : Type}
def pushH (i : Nat) (s : α) (H : List (List α)) : List (List α) := H.set i (H.getD i [] ++ [s])
def remH (S : List Int) (H : List (List α)) (i : Nat) : Int := S.getD i 0 - ((H.getD i []).length : Int)
def roomH (S : List Int) (H : List (List α)) (lo : Nat) : Nat → Int
  | 0 => 0
  | m + 1 => roomH S H lo m + remH S H (lo + m)
def befH (lo n at_ : Nat) : Nat := if at_ = lo then n - 1 else at_ - 1
/-- the circle of the heats from lo on, below n: k steps, a heat that is full is passed by -/
def Cir (S : List Int) (lo n : Nat) : Nat → Nat → List (List α) → List α → List (List α) → List α → Prop
  | 0, _, H, who, H1, w1 => (who = [] ∨ roomH S H lo (n - lo) = 0) ∧ H1 = H ∧ w1 = who
  | k + 1, at_, H, who, H1, w1 => roomH S H lo (n - lo) ≠ 0 ∧ match who with
    | [] => False
    | s :: r => if remH S H at_ ≤ 0 then Cir S lo n k (befH lo n at_) H (s :: r) H1 w1 else Cir S lo n k (befH lo n at_) (pushH at_ s H) r H1 w1
/-- the heats below i, from the last one on -/
def fillH (S : List Int) : Nat → List (List α) → List α → List (List α)
  | 0, H, _ => H
  | i + 1, H, who => fillH S i (H.set i (H.getD i [] ++ who.take (remH S H i).toNat)) (who.drop (remH S H i).toNat)
/-- what stays so: nobody is too many, and for everybody who is left there is room -/
structure InvH (S : List Int) (H : List (List α)) (who : List α) : Prop where
  len : H.length = S.length
  fit : ∀ i, 0 ≤ remH S H i
  sum : (who.length : Int) = roomH S H 0 S.length
variable {S : List Int} {H : List (List α)} {who r : List α} {s : α} {i lo n : Nat}
theorem push_len : (pushH i s H).length = H.length := by unfold pushH; rw [List.length_set]
theorem push_at (hi : i < H.length) : (pushH i s H).getD i [] = H.getD i [] ++ [s] := by
  unfold pushH
  rw [List.getD_eq_getElem?_getD, List.getElem?_set_self hi]; rfl
theorem push_ne {j : Nat} (hj : j ≠ i) : (pushH i s H).getD j [] = H.getD j [] := by
  unfold pushH
  rw [List.getD_eq_getElem?_getD, List.getElem?_set_ne (fun e => hj e.symm), ← List.getD_eq_getElem?_getD]
theorem rem_push (hi : i < H.length) : remH S (pushH i s H) i = remH S H i - 1 := by
  unfold remH
  rw [push_at hi, List.length_append]
  simp only [List.length_cons, List.length_nil]
  omega
theorem rem_push_ne {j : Nat} (hj : j ≠ i) : remH S (pushH i s H) j = remH S H j := by unfold remH; rw [push_ne hj]
theorem room_out {m : Nat} (h : i < lo ∨ lo + m ≤ i) : roomH S (pushH i s H) lo m = roomH S H lo m := by
  induction m with
  | zero => rfl
  | succ m ih => unfold roomH; rw [ih (by omega), rem_push_ne (by omega)]
theorem room_push (hi : i < H.length) : ∀ {m : Nat}, lo ≤ i → i < lo + m → roomH S (pushH i s H) lo m = roomH S H lo m - 1
  | 0, h1, h2 => absurd h2 (by omega)
  | m + 1, h1, h2 => by
    unfold roomH
    by_cases e : i = lo + m
    · subst e
      rw [room_out (by omega), rem_push hi]; omega
    · rw [room_push hi h1 (by omega), rem_push_ne (by omega)]; omega
theorem room_nonneg (h : ∀ i, 0 ≤ remH S H i) (lo : Nat) : ∀ m, 0 ≤ roomH S H lo m
  | 0 => by unfold roomH; omega
  | m + 1 => by have := room_nonneg h lo m; have := h (lo + m); unfold roomH; omega
theorem room_split (S : List Int) (H : List (List α)) (lo a : Nat) : ∀ b, roomH S H lo (a + b) = roomH S H lo a + roomH S H (lo + a) b
  | 0 => by show roomH S H lo a = _; unfold roomH; omega
  | b + 1 => by
    show roomH S H lo (a + b) + remH S H (lo + (a + b)) = _
    rw [room_split S H lo a b, show lo + (a + b) = lo + a + b by omega]
    show _ = _ + (roomH S H (lo + a) b + remH S H (lo + a + b))
    omega
theorem room_some (h : ∀ i, 0 ≤ remH S H i) : ∀ {m : Nat}, roomH S H lo m ≠ 0 → ∃ j, lo ≤ j ∧ j < lo + m ∧ 0 < remH S H j
  | 0, hr => absurd rfl hr
  | m + 1, hr => by
    by_cases h1 : 0 < remH S H (lo + m)
    · exact ⟨lo + m, by omega, by omega, h1⟩
    · have := h (lo + m)
      obtain ⟨j, a, b, c⟩ := room_some h (m := m) (by unfold roomH at hr; omega)
      exact ⟨j, a, by omega, c⟩
theorem room_ge (h : ∀ i, 0 ≤ remH S H i) {j : Nat} : ∀ {m : Nat}, lo ≤ j → j < lo + m → remH S H j ≤ roomH S H lo m
  | 0, a, b => absurd b (by omega)
  | m + 1, a, b => by
    have h0 := room_nonneg h lo m
    have h1 := h (lo + m)
    unfold roomH
    by_cases e : j = lo + m
    · subst e; omega
    · have := room_ge h (m := m) a (by omega); omega
theorem rem_far (hl : H.length = S.length) {j : Nat} (hj : S.length ≤ j) : remH S H j = 0 := by
  unfold remH
  rw [List.getD_eq_getElem?_getD, List.getD_eq_getElem?_getD, List.getElem?_eq_none (by omega), List.getElem?_eq_none (by omega)]
  simp
theorem InvH.push (h : InvH S H (s :: r)) (hr : 0 < remH S H i) : InvH S (pushH i s H) r := by
  have hi : i < S.length := by
    rcases Nat.lt_or_ge i S.length with h1 | h1
    · exact h1
    · rw [rem_far h.len h1] at hr; omega
  refine ⟨by rw [push_len]; exact h.len, fun j => ?_, ?_⟩
  · by_cases e : j = i
    · subst e; rw [rem_push (by rw [h.len]; exact hi)]; omega
    · rw [rem_push_ne e]; exact h.fit j
  · rw [room_push (by rw [h.len]; exact hi) (Nat.zero_le _) (by omega)]
    have := h.sum
    rw [List.length_cons] at this
    omega
theorem InvH.some_ (h : InvH S H who) (hr : 0 < remH S H i) : ∃ s r, who = s :: r := by
  have hi : i < S.length := by
    rcases Nat.lt_or_ge i S.length with h1 | h1
    · exact h1
    · rw [rem_far h.len h1] at hr; omega
  have h1 := room_ge h.fit (lo := 0) (j := i) (m := S.length) (Nat.zero_le _) (by omega)
  have h2 := h.sum
  cases who with
  | nil => simp at h2; omega
  | cons s r => exact ⟨s, r, rfl⟩
theorem InvH.start (hp : ∀ x ∈ S, 0 ≤ x) (hs : (who.length : Int) = S.sum) : InvH S (List.replicate S.length ([] : List α)) who := by
  have hr : ∀ i, remH S (List.replicate S.length ([] : List α)) i = S.getD i 0 := by
    intro i
    unfold remH
    rw [List.getD_eq_getElem?_getD (l := List.replicate _ _), List.getElem?_replicate]
    split <;> simp
  refine ⟨by rw [List.length_replicate], fun i => ?_, ?_⟩
  · rw [hr i, List.getD_eq_getElem?_getD]
    cases hx : S[i]? with
    | none => simp
    | some x => exact hp x (List.mem_of_getElem? hx)
  · rw [hs]
    have h2 : ∀ m, m ≤ S.length → roomH S (List.replicate S.length ([] : List α)) 0 m = (S.take m).sum := by
      intro m
      induction m with
      | zero => intro _; simp [roomH]
      | succ m ih =>
        intro hm
        unfold roomH
        rw [ih (by omega), Nat.zero_add, hr m, List.take_add_one, List.sum_append]
        obtain ⟨x, hx⟩ : ∃ x, S[m]? = some x := ⟨S[m], List.getElem?_eq_getElem (by omega)⟩
        rw [List.getD_eq_getElem?_getD, hx]; simp
    rw [h2 _ (Nat.le_refl _), List.take_length]
def dstH (lo n j at_ : Nat) : Nat := if j ≤ at_ then at_ - j else at_ - lo + 1 + (n - 1 - j)
theorem cir_skip (hlo : lo < n) {j : Nat} (hj1 : lo ≤ j) (hj2 : j < n) (hrj : 0 < remH S H j) (hro : roomH S H lo (n - lo) ≠ 0) (hput : ∀ a, lo ≤ a → a < n → 0 < remH S H a → ∃ k H1 w1, Cir S lo n k a H (s :: r) H1 w1) : ∀ d at_, lo ≤ at_ → at_ < n → dstH lo n j at_ = d → ∃ k H1 w1, Cir S lo n k at_ H (s :: r) H1 w1
  | d, at_, h1, h2, h3 => by
    by_cases hf : 0 < remH S H at_
    · exact hput at_ h1 h2 hf
    · have hne : at_ ≠ j := fun e => hf (e ▸ hrj)
      cases d with
      | zero =>
        exfalso
        unfold dstH at h3
        split at h3 <;> omega
      | succ d =>
        have hb : lo ≤ befH lo n at_ ∧ befH lo n at_ < n := by unfold befH; split <;> omega
        have hd : dstH lo n j (befH lo n at_) = d := by
          unfold dstH befH at *
          by_cases e : at_ = lo
          · rw [if_pos e]
            split at h3 <;> split <;> omega
          · rw [if_neg e]
            split at h3 <;> split <;> omega
        obtain ⟨k, H1, w1, hc⟩ := cir_skip hlo hj1 hj2 hrj hro hput d (befH lo n at_) hb.1 hb.2 hd
        refine ⟨k + 1, H1, w1, hro, ?_⟩
        dsimp only
        rw [if_pos (by omega)]
        exact hc
/-- the circle comes to its end -/
theorem cir_ex (hlo : lo < n) : ∀ (who : List α) (H : List (List α)) (at_ : Nat), InvH S H who → lo ≤ at_ → at_ < n → ∃ k H1 w1, Cir S lo n k at_ H who H1 w1
  | [], H, at_, _, _, _ => ⟨0, H, [], .inl rfl, rfl, rfl⟩
  | s :: r, H, at_, hI, h1, h2 => by
    by_cases hro : roomH S H lo (n - lo) = 0
    · exact ⟨0, H, s :: r, .inr hro, rfl, rfl⟩
    · obtain ⟨j, hj1, hj2, hj3⟩ := room_some hI.fit hro
      refine cir_skip hlo hj1 (by omega) hj3 hro (fun a ha1 ha2 ha3 => ?_) _ at_ h1 h2 rfl
      have hb : lo ≤ befH lo n a ∧ befH lo n a < n := by unfold befH; split <;> omega
      obtain ⟨k, H1, w1, hc⟩ := cir_ex hlo r (pushH a s H) (befH lo n a) (hI.push ha3) hb.1 hb.2
      refine ⟨k + 1, H1, w1, hro, ?_⟩
      dsimp only
      rw [if_neg (by omega)]
      exact hc
theorem fill_push (hi : i < H.length) (hr : 0 < remH S H i) : fillH S (i + 1) H (s :: r) = fillH S (i + 1) (pushH i s H) r := by
  have e1 : (remH S H i).toNat = (remH S (pushH i s H) i).toNat + 1 := by rw [rem_push hi]; omega
  show fillH S i (H.set i _) _ = fillH S i ((pushH i s H).set i _) _
  rw [e1, List.take_succ_cons, List.drop_succ_cons, push_at hi]
  congr 1
  unfold pushH
  rw [List.set_set, List.append_assoc]; rfl
theorem fill_full (hr : remH S H i ≤ 0) : fillH S (i + 1) H who = fillH S i H who := by
  show fillH S i (H.set i _) _ = _
  rw [show (remH S H i).toNat = 0 by omega, List.take_zero, List.drop_zero, List.append_nil]
  congr 1
  rw [List.getD_eq_getElem?_getD]
  cases hx : H[i]? with
  | none => rw [List.set_eq_of_length_le (by rw [List.getElem?_eq_none_iff] at hx; exact hx)]
  | some x =>
    have hi : i < H.length := (List.getElem?_eq_some_iff.1 hx).1
    rw [Option.getD_some, ← (List.getElem?_eq_some_iff.1 hx).2]
    exact List.set_getElem_self hi
theorem fill_keep : ∀ (i : Nat) (H : List (List α)) (who : List α) (j : Nat), i ≤ j → (fillH S i H who).getD j [] = H.getD j []
  | 0, _, _, _, _ => rfl
  | i + 1, H, who, j, h => by
    show (fillH S i _ _).getD j [] = _
    rw [fill_keep i _ _ j (by omega), List.getD_eq_getElem?_getD, List.getElem?_set_ne (by omega), ← List.getD_eq_getElem?_getD]
theorem set_flat : ∀ (H : List (List α)) (i : Nat) (t : List α), i < H.length → (H.set i (H.getD i [] ++ t)).flatten.Perm (H.flatten ++ t)
  | [], i, t, h => by simp at h
  | x :: H, 0, t, _ => by
    simp only [List.set_cons_zero, List.getD_cons_zero, List.flatten_cons, List.append_assoc]
    exact List.Perm.append_left _ List.perm_append_comm
  | x :: H, i + 1, t, h => by
    rw [List.set_cons_succ, List.getD_cons_succ, List.flatten_cons, List.flatten_cons, List.append_assoc]
    exact List.Perm.append_left _ (set_flat H i t (by simpa using h))
theorem flat_push (hi : i < H.length) : (pushH i s H).flatten.Perm (H.flatten ++ [s]) := set_flat H i [s] hi
theorem cir_inv (hlo : lo < n) (hn : n ≤ S.length) : ∀ (k : Nat) (at_ : Nat) (H : List (List α)) (who : List α) (H1 : List (List α)) (w1 : List α), InvH S H who → lo ≤ at_ → at_ < n → Cir S lo n k at_ H who H1 w1 → InvH S H1 w1 ∧ (H1.flatten ++ w1).Perm (H.flatten ++ who)
  | 0, at_, H, who, H1, w1, hI, h1, h2, hc => by
    obtain ⟨_, rfl, rfl⟩ := hc
    exact ⟨hI, List.Perm.refl _⟩
  | k + 1, at_, H, [], H1, w1, hI, h1, h2, hc => absurd hc.2 id
  | k + 1, at_, H, s :: r, H1, w1, hI, h1, h2, hc => by
    have h3 := hc.2
    dsimp only at h3
    have hb : lo ≤ befH lo n at_ ∧ befH lo n at_ < n := by unfold befH; split <;> omega
    split at h3
    · exact cir_inv hlo hn k _ H (s :: r) H1 w1 hI hb.1 hb.2 h3
    · obtain ⟨q1, q2⟩ := cir_inv hlo hn k _ (pushH at_ s H) r H1 w1 (hI.push (by omega)) hb.1 hb.2 h3
      refine ⟨q1, q2.trans ?_⟩
      refine ((flat_push (by have := hI.len; omega)).append_right r).trans ?_
      rw [List.append_assoc]; rfl
theorem rem_setH (H : List (List α)) (i j : Nat) (x : List α) (hj : j ≠ i) : remH S (H.set i x) j = remH S H j := by
  unfold remH
  rw [List.getD_eq_getElem?_getD (l := H.set i x), List.getElem?_set_ne (fun e => hj e.symm), ← List.getD_eq_getElem?_getD]
theorem room_setH (H : List (List α)) (i : Nat) (x : List α) : ∀ m, m ≤ i → roomH S (H.set i x) 0 m = roomH S H 0 m
  | 0, _ => rfl
  | m + 1, h => by unfold roomH; rw [room_setH H i x m (by omega), rem_setH H i _ x (by omega)]
/-- what the heats hold in the end: those who were there, and the others -/
theorem fill_perm : ∀ (i : Nat) (H : List (List α)) (who : List α), i ≤ H.length → (∀ j, 0 ≤ remH S H j) → (who.length : Int) = roomH S H 0 i → (fillH S i H who).flatten.Perm (H.flatten ++ who) ∧ (fillH S i H who).length = H.length ∧ ∀ j, j < i → ((fillH S i H who).getD j []).length = S.getD j 0
  | 0, H, who, _, _, hs => by
    have : who = [] := List.eq_nil_of_length_eq_zero (by unfold roomH at hs; omega)
    subst this
    refine ⟨?_, rfl, fun j h => by omega⟩
    rw [List.append_nil]; exact List.Perm.refl _
  | i + 1, H, who, hi, hf, hs => by
    have hr := hf i
    unfold roomH at hs
    rw [Nat.zero_add] at hs
    have hn0 := room_nonneg hf 0 i
    have htl : ((who.take (remH S H i).toNat).length : Int) = remH S H i := by rw [List.length_take]; omega
    have hi' : i < H.length := by omega
    have hf' : ∀ j, 0 ≤ remH S (H.set i (H.getD i [] ++ who.take (remH S H i).toNat)) j := by
      intro j
      by_cases e : j = i
      · subst e
        have h9 : remH S H j = S.getD j 0 - ((H.getD j []).length : Int) := rfl
        generalize who.take (remH S H j).toNat = T at *
        unfold remH
        rw [List.getD_eq_getElem?_getD (l := H.set j _), List.getElem?_set_self hi', Option.getD_some, List.length_append]
        push_cast
        omega
      · rw [rem_setH _ _ _ _ e]; exact hf j
    have hei : ((H.set i (H.getD i [] ++ who.take (remH S H i).toNat)).getD i []).length = S.getD i 0 := by
      have h9 : remH S H i = S.getD i 0 - ((H.getD i []).length : Int) := rfl
      generalize who.take (remH S H i).toNat = T at *
      rw [List.getD_eq_getElem?_getD, List.getElem?_set_self hi', Option.getD_some, List.length_append]
      push_cast
      omega
    obtain ⟨p1, p2, p3⟩ := fill_perm i (H.set i (H.getD i [] ++ who.take (remH S H i).toNat)) (who.drop (remH S H i).toNat) (by rw [List.length_set]; omega) hf' (by rw [room_setH _ _ _ _ (Nat.le_refl _), List.length_drop]; omega)
    refine ⟨?_, by rw [show fillH S (i + 1) H who = fillH S i _ _ from rfl, p2, List.length_set], fun j hj => ?_⟩
    · show (fillH S i _ _).flatten.Perm _
      refine p1.trans ?_
      refine ((set_flat H i _ hi').append_right _).trans ?_
      rw [List.append_assoc, List.take_append_drop]
    · show ((fillH S i _ _).getD j []).length = S.getD j 0
      by_cases e : j = i
      · subst e
        rw [fill_keep _ _ _ _ (Nat.le_refl _)]
        exact hei
      · exact p3 j (by omega)
end
end Go.Proofs.YtffhobmkbabllaaGreatDoor
