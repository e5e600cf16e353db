/- heat.Decided: the walk. -/
import Derived.Test.YtjafcnblgeibpaaGreatDoorDecM
import Derived.Test.YtjafcnblgeibpaaGreatDoorDecR
namespace Go.Proofs.YtjafcnblgeibpaaGreatDoor
open Go.RowKit Go.Shelf Go.Lib Go.Sort
open Go.Maps (Keyed string_keyed)
open Go.WideMaps (keyOf_string_mk)
set_option linter.unusedVariables false

/-- the new time of somebody; 0: none -/
def timeAt (off : List Sd) (s : ByteArray) : Int := off.foldl (fun f x => if x.who = s then x.time else f) 0
def WasT (D : DataW Unit) (v : List Sd) : Prop := Go.Maps.IsMap D ∧ MapT D (timeAt v)
theorem WasT.nil : WasT (.map []) [] := ⟨Go.Maps.isMap_empty, fun s => by rw [atKey_nil]; rfl⟩
theorem WasT.snoc {D : DataW Unit} {v : List Sd} (h : WasT D v) (x : Sd) : WasT (D.put (.string x.who.data.toList) (.lit (.int .i64 x.time))) (v ++ [x]) := by
  refine ⟨h.1.put _ _, fun t => ?_⟩
  have e : timeAt (v ++ [x]) t = if x.who = t then x.time else timeAt v t := by unfold timeAt; rw [List.foldl_append]; rfl
  rw [e]
  by_cases e2 : x.who = t
  · subst e2
    rw [Go.Maps.atKey_put_same h.1 (by trivial), if_pos rfl]
  · rw [Go.Maps.atKey_put_other (by intro e3; injection e3 with e3; exact e2 (bytes_inj e3).symm), h.2 t, if_neg e2]
/-- a group sorted anew -/
def sortG (T : ByteArray → Int) (L : List Sd) (g : Nat × Nat) : List Sd := L.take g.1 ++ (insL (ltOf fun x y => tmCf (T x.who) (T y.who)) ((L.drop g.1).take (g.2 - g.1)) ++ L.drop g.2)
theorem sortG_cut {L : List Sd} {lo hi : Nat} (h0 : lo ≤ hi) : L = L.take lo ++ ((L.drop lo).take (hi - lo) ++ L.drop hi) := by
  have h1 : L.drop hi = (L.drop lo).drop (hi - lo) := by rw [List.drop_drop]; congr 1; omega
  rw [h1, List.take_append_drop, List.take_append_drop]
theorem insL_memG {lt : Sd → Sd → Bool} {l : List Sd} {x : Sd} : x ∈ insL lt l ↔ x ∈ l := by
  rw [insL_fold, List.mem_reverse]
  have h : ∀ (l P : List Sd), x ∈ l.foldl (fun P x => insR lt x P) P ↔ x ∈ P ∨ x ∈ l := by
    intro l
    induction l with
    | nil => intro P; simp
    | cons y r ih =>
      intro P
      rw [List.foldl_cons, ih, insR_mem, List.mem_cons]
      constructor
      · rintro ((h | h) | h)
        · exact .inr (.inl h)
        · exact .inl h
        · exact .inr (.inr h)
      · rintro (h | h | h)
        · exact .inl (.inr h)
        · exact .inl (.inl h)
        · exact .inr h
  rw [h]
  simp
theorem sortG_mem {T : ByteArray → Int} {L : List Sd} {g : Nat × Nat} (h0 : g.1 ≤ g.2) {x : Sd} : x ∈ sortG T L g → x ∈ L := by
  intro hx
  rw [sortG_cut (L := L) h0]
  unfold sortG at hx
  rcases List.mem_append.1 hx with hx | hx
  · exact List.mem_append_left _ hx
  · rcases List.mem_append.1 hx with hx | hx
    · refine List.mem_append_right _ (List.mem_append_left _ ?_)
      exact insL_memG.1 hx
    · exact List.mem_append_right _ (List.mem_append_right _ hx)
theorem sortG_len {T : ByteArray → Int} {L : List Sd} {g : Nat × Nat} (h0 : g.1 ≤ g.2) : (sortG T L g).length = L.length := by
  have h := congrArg List.length (sortG_cut (L := L) h0)
  unfold sortG
  rw [List.length_append, List.length_append, insL_len, ← List.length_append, ← List.length_append] at *
  exact h.symm
def decV (f : Fl) (T : ByteArray → Int) (L : List Sd) : List Sd := (grpV f L).foldl (sortG T) L
theorem RN.kept_map {α : Type} {size : Nat} {enc : α → List Value} {e : TypeId} {w w' : World} {A : Option Addr} {n : Nat} {l : List α} (h : RN size enc e w A n l) {k : TypeId} {R : Value → Option (DataW Unit × List MemPlace)} {b q : Nat} {D : DataW Unit} (hm : w.ownsMap Tryz.prog k R b q D) (hg : w.grownBy w' (some b)) : RN size enc e w' A n l := by
  refine ⟨h.1, h.2.1, fun hp => ?_⟩
  obtain ⟨b', off, cs, fz, hA, hb, hc⟩ := h.2.2 hp
  obtain ⟨es, clock, hbm, _⟩ := hm
  refine ⟨b', off, cs, fz, hA, blk_grown hb hg (fun e => ?_), hc⟩
  have e := Option.some.inj e
  subst e
  rw [hb] at hbm
  cases hbm
/-- what is carried while groups are sorted -/
structure DcK (w : World) (f : Fl) (b10 bm qm : Nat) (D : DataW Unit) (bs q2 : Nat) (D2 : DataW Unit) (base : Nat) (u : Value) (n : Nat) (acc : List Sd) (wx : World) : Prop where
  mt : MI wx bm qm D
  h10 : wx.heap[b10]? = some (.cells #[.map (some bm)] 127 (0, 0))
  ms : MB wx bs q2 D2
  o : wx.ownsRow base 86 2 u n (acc.flatMap sdE)
  fb : FinB w.heap.size f wx
  bel : Below w.heap.size w wx
  l1 : w.heap.size < b10
  l2 : w.heap.size < bm
  l3 : b10 < base
  l4 : bm < base
  l5 : bs ≠ b10 ∧ bs ≠ bm ∧ w.heap.size < bs
  l6 : ∀ i, u.ownBlock = some i → i ≠ bs
section
variable {w wx w' : World} {f : Fl} {b10 bm qm bs q2 q3 base n : Nat} {D D2 DN : DataW Unit} {u : Value} {acc acc' : List Sd}
theorem DcK.below (h : DcK w f b10 bm qm D bs q2 D2 base u n acc wx) (B : Below wx.heap.size wx w') : DcK w f b10 bm qm D bs q2 D2 base u n acc w' :=
  ⟨h.mt.kept (row := none) (grown_of_below B) (by simp), blk_below h.h10 B, h.ms.kept (row := none) (grown_of_below B) (by simp), own_below h.o B, blk_below h.fb B, below_next h.bel B, h.l1, h.l2, h.l3, h.l4, h.l5, h.l6⟩
theorem DcK.put (h : DcK w f b10 bm qm D bs q2 D2 base u n acc wx) (hm : MB w' bs q3 DN) (hg : wx.grownBy w' (some bs)) : DcK w f b10 bm qm D bs q3 DN base u n acc w' := by
  obtain ⟨a1, a2, a3⟩ := h.l5
  have hl6 := h.l6
  exact ⟨h.mt.kept hg (fun e => a2 (Option.some.inj e).symm), blk_grown h.h10 hg (fun e => a1 (Option.some.inj e).symm), hm, h.o.kept hg (by by_cases e : u.ownBlock = some bs; exact absurd rfl (hl6 _ e); exact .inr e), blk_grown h.fb hg (fun e => by have := Option.some.inj e; omega), h.bel.trans (grown_below hg (by omega) h.bel.size), h.l1, h.l2, h.l3, h.l4, h.l5, h.l6⟩
theorem DcK.sort (h : DcK w f b10 bm qm D bs q2 D2 base u n acc wx) (ho : w'.ownsRow base 86 2 u n (acc'.flatMap sdE)) {gb : Nat} (hu : u.ownBlock = some gb) (hg : wx.grownBy w' (some gb)) : DcK w f b10 bm qm D bs q2 D2 base u n acc' w' := by
  have hgb := own_row_lt h.o _ hu
  have h6 := h.l6 _ hu
  have a1 := h.l1
  have a2 := h.l2
  have a3 := h.l3
  have a4 := h.l4
  exact ⟨h.mt.kept hg (fun e => by have := Option.some.inj e; omega), blk_grown h.h10 hg (fun e => by have := Option.some.inj e; omega), h.ms.kept hg (fun e => h6 (Option.some.inj e).symm), ho, blk_grown h.fb hg (fun e => by have := Option.some.inj e; omega), h.bel.trans (grown_below hg (by omega) h.bel.size), h.l1, h.l2, h.l3, h.l4, h.l5, h.l6⟩
end
theorem grpL_pair (f : Fl) (L : List Sd) (i : Nat) : (grpL f L i).Pairwise fun a b => a.2 ≤ b.1 := by
  rw [grpL]
  split
  · rename_i h
    have h1 := runE_gt L i
    rw [List.pairwise_append]
    refine ⟨by split <;> simp, grpL_pair f L (runE L i), fun a ha b hb => ?_⟩
    split at ha
    · obtain rfl := List.mem_singleton.1 ha
      exact (grpL_bd f L (runE L i) b hb).1
    · cases ha
  · exact List.Pairwise.nil
termination_by L.length - i
decreasing_by have := runE_gt L i; omega
theorem sortG_drop {T : ByteArray → Int} {L : List Sd} {g : Nat × Nat} (h0 : g.1 ≤ g.2) (h1 : g.2 ≤ L.length) {x : Nat} (hx : g.2 ≤ x) : (sortG T L g).drop x = L.drop x := by
  have e : (L.take g.1 ++ insL (ltOf fun x y => tmCf (T x.who) (T y.who)) ((L.drop g.1).take (g.2 - g.1))).length = g.2 := by
    rw [List.length_append, insL_len, List.length_take, List.length_take, List.length_drop]; omega
  unfold sortG
  rw [← List.append_assoc, List.drop_append, e, List.drop_of_length_le (by rw [e]; exact hx), List.nil_append, List.drop_drop]
  congr 1
  omega
theorem nmsOf_drop {L L' : List Sd} {g : Nat × Nat} (h : L'.drop g.1 = L.drop g.1) : nmsOf L' g = nmsOf L g := by unfold nmsOf; rw [h]
theorem sort_later {T : ByteArray → Int} {F acc : List Sd} {GV : List (Nat × Nat)} {j : Nat} {g : Nat × Nat} (hp : GV.Pairwise fun a b => a.2 ≤ b.1) (hg : GV[j]? = some g) (h0 : g.1 ≤ g.2) (hl : g.2 ≤ acc.length) (h : ∀ g ∈ GV.drop j, acc.drop g.1 = F.drop g.1) : ∀ g' ∈ GV.drop (j + 1), (sortG T acc g).drop g'.1 = F.drop g'.1 := by
  intro g' hg'
  have e : GV.drop j = g :: GV.drop (j + 1) := drop_at hg
  have hp2 := hp.sublist (List.drop_sublist j GV)
  rw [e, List.pairwise_cons] at hp2
  rw [sortG_drop h0 hl (hp2.1 g' hg')]
  exact h g' (by rw [e]; exact List.mem_cons_of_mem _ hg')
/-- what is carried while the times are put into their map -/
structure TkK (w : World) (f : Fl) (b10 bm qm : Nat) (D : DataW Unit) (wx : World) : Prop where
  mt : MI wx bm qm D
  h10 : wx.heap[b10]? = some (.cells #[.map (some bm)] 127 (0, 0))
  fb : FinB w.heap.size f wx
  bel : Below w.heap.size w wx
  l1 : w.heap.size < bm
  l2 : bm < b10
theorem TkK.below {w wx w' : World} {f : Fl} {b10 bm qm : Nat} {D : DataW Unit} (h : TkK w f b10 bm qm D wx) (B : Below wx.heap.size wx w') : TkK w f b10 bm qm D w' :=
  ⟨h.mt.kept (row := none) (grown_of_below B) (by simp), blk_below h.h10 B, blk_below h.fb B, below_next h.bel B, h.l1, h.l2⟩
theorem TkK.put {w wx w' : World} {f : Fl} {b10 bm qm q3 : Nat} {D DN : DataW Unit} (h : TkK w f b10 bm qm D wx) (hm : MI w' bm q3 DN) (hg : wx.grownBy w' (some bm)) : TkK w f b10 bm q3 DN w' := by
  have a1 := h.l1
  have a2 := h.l2
  exact ⟨hm, blk_grown h.h10 hg (fun e => by have := Option.some.inj e; omega), blk_grown h.fb hg (fun e => by have := Option.some.inj e; omega), h.bel.trans (grown_below hg (by omega) h.bel.size), h.l1, h.l2⟩
theorem seenB_cons (s x : ByteArray) (seen : List ByteArray) : seenB s (x :: seen) = (decide (x = s) || seenB s seen) := rfl
theorem contS_snoc (N : List ByteArray) (x s : ByteArray) : Lib.containsS (N ++ [x]) s = (decide (x = s) || Lib.containsS N s) := by
  have h1 := Lib.containsS_iff (N ++ [x]) s
  have h2 := Lib.containsS_iff N s
  rw [Bool.eq_iff_iff, Bool.or_eq_true, h1, h2, decide_eq_true_iff, List.mem_append, List.mem_singleton]
  constructor
  · rintro (h | h)
    · exact .inr h
    · exact .inl h.symm
  · rintro (h | h)
    · exact .inr h.symm
    · exact .inl h
def SeenIs (seen N : List ByteArray) : Prop := ∀ s, seenB s seen = Lib.containsS N s
theorem SeenIs.nil : SeenIs [] [] := fun s => by rw [Bool.eq_iff_iff, Lib.containsS_iff]; simp [seenB]
theorem SeenIs.snoc {seen N : List ByteArray} (h : SeenIs seen N) (x : ByteArray) : SeenIs (x :: seen) (N ++ [x]) := fun s => by rw [seenB_cons, contS_snoc, h s]
def RetDc (w : World) (E : Int) (V : List Pc) (e : Ending) (w' : World) : Prop := ∃ A n c, e = .returned (.tuple #[.slice A n c, .int .i64 E]) ∧ RPc w' A n V ∧ Below w.heap.size w w'
set_option maxHeartbeats 6400000 in
set_option maxRecDepth 100000 in
theorem decided_c (f : Fl) (hf : FlOk f) (A O : Option Addr) (n c m d : Nat) (l off : List Sd) (w : World) (h : RSd w A n l) (hO : RSd w O m off) (hn : n ≤ 19) (h0 : seedErr l = 0) (hE : decE (offV f (finL l)).flatten off = 0) :
    Calls Tryz.prog 19 #[f.val, .slice A n c, .slice O m d] w (RetDc w 0 (plc f (decV f (timeAt off) (finL l)) 0 (decV f (timeAt off) (finL l)))) := by
  have hs0 : seedErr off = 0 := by
    unfold decE at hE
    split at hE
    · rename_i h1; exact absurd hE h1
    · rename_i h1; simpa using h1
  have hin : inAll (offV f (finL l)).flatten off = true := by
    unfold decE at hE
    rw [if_neg (by simpa using hs0)] at hE
    by_cases h1 : inAll (offV f (finL l)).flatten off = true
    · exact h1
    · rw [if_neg h1] at hE; cases hE
  have hin' := Lib.hid (fun k x (hx : off[k]? = some x) => List.all_eq_true.1 hin x (List.mem_of_getElem? hx))
  have hCF := Lib.hid (fun W h => checkFinals_c f A n c l W h)
  rw [show finErr f = 0 from if_pos hf, h0, if_neg (by simp)] at hCF
  have hCS := Lib.hid (fun W h => checkSeeds_c O m d off W h)
  rw [hs0] at hCS
  obtain ⟨_, hso⟩ := seedErr_ok h0
  obtain ⟨hm300, hoo⟩ := seedErr_ok hs0
  have hFi := Lib.hid (fun W h => finished_c A n c l W h hn (fun x hx => (hso x hx).2))
  have hGr := Lib.hid (fun A2 n2 c2 W h h2 => groups_c f hf A2 n2 c2 (finL l) W h h2)
  have hGb := Lib.hid (fun g (h : g ∈ grpV f (finL l)) => show g.1 < g.2 ∧ g.2 ≤ (finL l).length from (grpL_bd f (finL l) 0 g h).2)
  have hGn := Lib.hid (grpV_len f (finL l))
  have hGp := Lib.hid (show (grpV f (finL l)).Pairwise fun a b => a.2 ≤ b.1 from grpL_pair f (finL l) 0)
  have hPl := Lib.hid (fun A2 n2 c2 L W h h2 => places_c f hf A2 n2 c2 L W h h2)
  have hDV := Lib.hid (show decV f (timeAt off) (finL l) = (grpV f (finL l)).foldl (sortG (timeAt off)) (finL l) from rfl)
  have hoff := Lib.hid (show (offV f (finL l)).flatten = (grpV f (finL l)).flatMap (nmsOf (finL l)) by unfold offV; rw [List.flatMap_def])
  have hFn := Lib.hid (finL_len l)
  have hln := Lib.hid h.len
  have hlo := Lib.hid hO.len
  have hkb := Lib.hid (fun x (hx : x ∈ finL l) => show x.who.size ≤ 40 from (key_small (hso x (finL_mem.1 hx).1).1).2)
  have hko := Lib.hid (fun (k : Nat) (x : Sd) (hx : off[k]? = some x) => show x.who.size ≤ 40 ∧ (0 ≤ x.time ∧ x.time ≤ 360000) from ⟨(key_small (hoo x (List.mem_of_getElem? hx)).1).2, (hoo x (List.mem_of_getElem? hx)).2⟩)
  have hF0 : FinB w.heap.size f (w.alloc (.cells f.cells 27)) := heap_alloc_new w _
  have hB0 := below_new w (.cells f.cells 27)
  have hR := Lib.hid (fun W B => h.below (w' := W) B)
  have hRO := Lib.hid (fun W B => hO.below (w' := W) B)
  have hWs := Lib.hid (fun (k : Nat) (x : Sd) (D : DataW Unit) (hx : off[k]? = some x) (h : WasT D (off.take k)) => show WasT (D.put (.string x.who.data.toList) (.lit (.int .i64 x.time))) (off.take (k + 1)) by rw [List.take_add_one, hx]; exact h.snoc x)
  have hWf := Lib.hid (show off.take m = off from List.take_of_length_le (by rw [hO.len]; exact Nat.le_refl _))
  have hmm := @run_makeMap Tryz.prog
  clear h hO h0 hE hs0 hin hso hoo
  generalize (offV f (finL l)).flatten = NM at *
  generalize decV f (timeAt off) (finL l) = DV at *
  generalize grpV f (finL l) = GV at *
  generalize finL l = F at *
  generalize hTm : timeAt off = T at *
  obtain ⟨sz, mn, rs⟩ := f
  have hFa := Lib.hid (fun v (h : FinB w.heap.size ⟨sz, mn, rs⟩ v) => h.at_)
  have hFk := Lib.hid (fun a v (h : FinB w.heap.size ⟨sz, mn, rs⟩ a) B => FinB.keep a v h B)
  dsimp only [Fl.val, Fl.cells] at *
  obtain ⟨y0, y1, y2⟩ := hFa.out _ hF0
  go_enter Tryz.func19, Tryz.ntmps19
  go_wp2_with fail
  refine (hCF.out _ (hR.out _ hB0)).mono ?_; rintro e w1 ⟨rfl, B1⟩
  have hB1 := below_next hB0 B1
  have hF1 := hFk.out _ _ hF0 B1
  clear hF0 hB0 B1 y0 y1 y2 hCF
  go_wp2_with fail
  refine (hCS.out _ (hRO.out _ hB1)).mono ?_; rintro e w2 ⟨rfl, B2⟩
  have hB2 := below_next hB1 B2
  have hF2 := hFk.out _ _ hF1 B2
  clear hF1 hB1 B2 hCS
  go_wp2_with fail
  have K0 : TkK w ⟨sz, mn, rs⟩ (w2.heap.size + 1) w2.heap.size 0 (.map []) ((w2.alloc (.map #[] 0)).alloc (.cells #[.map (some w2.heap.size)] 127)) := by
    have hl := lt_of_heap hF2
    have hBa := below_next (below_new w2 (.map #[] 0)) (below_new (w2.alloc (.map #[] 0)) (.cells #[.map (some w2.heap.size)] 127))
    have hh := heap_alloc_new (w2.alloc (.map #[] 0)) (.cells #[.map (some w2.heap.size)] 127)
    rw [alloc_size] at hh
    exact ⟨(mi_new w2).alloc _, hh, hFk.out _ _ hF2 hBa, below_next hB2 hBa, hl, by omega⟩
  have hb2 : w.heap.size < w2.heap.size := lt_of_heap hF2
  clear hF2 hB2
  generalize (w2.alloc (.map #[] 0)).alloc (.cells #[.map (some w2.heap.size)] 127) = w3 at *
  generalize hb10 : w2.heap.size + 1 = b10 at *
  generalize w2.heap.size = bm at *
  go_loopw [36] (fun iv wr => ∃ (k q : Nat) (D : DataW Unit), k ≤ m ∧ iv = .int .i64 k ∧ q ≤ k ∧ TkK w ⟨sz, mn, rs⟩ b10 bm q D wr ∧ Hid (WasT D (off.take k))) (fun iv _ => m - (intOf iv).toNat)
  case atStart => exact ⟨0, 0, .map [], Nat.zero_le _, rfl, Nat.le_refl _, K0, Lib.hid WasT.nil⟩
  case round =>
    clear K0
    rename World => wr
    obtain ⟨k, q, D, hk, rfl, hq, K, hW⟩ := hrel
    by_cases hlt : k < m
    · obtain ⟨b, of, x, rfl, hbl, hx, c0, c1⟩ := RSd_at2 (hRO.out _ K.bel) hlt
      obtain ⟨hsz, hb1, hb2'⟩ := hko.out k x hx
      have hW2 := Lib.hid (hWs.out k x D hx hW.out)
      obtain ⟨who, time⟩ := x
      dsimp only at *
      have hbd := below_new wr (.cells #[.string who, .int .i64 time] 86)
      have K5 := K.below hbd
      have z0 := (blk_facts (heap_alloc_new wr (.cells #[.string who, .int .i64 time] 86))).1 0
      have z1 := (blk_facts (heap_alloc_new wr (.cells #[.string who, .int .i64 time] 86))).1 1
      have z2 := (blk_facts K5.h10).1 0
      have hm1 := K5.mt
      have hm9 : m ≤ 300 := by have := hlo.out; omega
      clear hx hW K hbd
      go_wp2_with (at_mapUpdate; refine wpList_mapUpdate_own _ rfl _ _ _ 127 rfl 9 3 (string_keyed Tryz.underlying9) Tryz.underlying127 _ _ q _ rfl hm1 (by unfold maxLen; omega) _ _ _ rfl rfl (keyOf_string_mk Tryz.underlying9 (by unfold maxLen; omega)) _ [] (plainElem_int Tryz.underlying3 (by simp [Lit.wf, IntKind.min, IntKind.max, IntKind.signed, IntKind.bits]; omega)) ?_; intro w5 hown5 hg5)
      have K6 := K5.put hown5 hg5
      clear hm1 hown5 hg5 K5 c0 c1 z0 z1 z2
      go_roundw
      case rel => exact ⟨k + 1, q + 1, _, by omega, by go_num, by omega, K6, hW2⟩
      case measure => simp [intOf]; omega
    · obtain rfl : k = m := by omega
      have hMT : MapT D T := by have h9 := hW.out; rw [hWf.out] at h9; rw [← hTm]; exact h9.2
      have hMT' := Lib.hid hMT
      clear hW hMT
      go_wp2_with fail
      refine (hFi.out _ (hR.out _ K.bel)).mono ?_; rintro e w4 ⟨A2, n2, c2, rfl, ho2, hn2, B4⟩
      have K4 := K.below B4
      have hl2 := own_len sdE_len (by decide) ho2
      have hl2' := Lib.hid hl2
      have hcp := Lib.hid (capN_own ho2)
      have hbs1 : b10 < wr.heap.size := lt_of_heap K.h10
      have hz4 := B4.size
      obtain ⟨z0, z1, z2⟩ := hFa.out _ (K4.below (below_new w4 (.map #[] 0))).fb
      have hlA := K4.l1
      have hlB := K4.l2
      have hbx := lt_of_heap K4.h10
      have KD : DcK w ⟨sz, mn, rs⟩ b10 bm q D w4.heap.size 0 (.map []) wr.heap.size (.slice A2 n2 c2) n2 F (w4.alloc (.map #[] 0)) := by
        have K5 := K4.below (below_new w4 (.map #[] 0))
        exact ⟨K5.mt, K5.h10, mb_new w4, ho2.alloc _, K5.fb, K5.bel, by omega, hlA, hbs1, by omega, ⟨by omega, by omega, by omega⟩, fun i hi => by have := (ho2.lt i hi).2; omega⟩
      have hr4 : RSd (w4.alloc (.map #[] 0)) A2 n2 F := RN.of_own sdE_len KD.o hl2 (by omega)
      clear K B4 hFi K4 ho2
      go_wp2_with fail
      refine (hGr.out A2 n2 c2 _ hr4 (by omega)).mono ?_; rintro e w5 ⟨A5, c5, rfl, rG, B5⟩
      have K5 := KD.below B5
      have hGl : GV.length ≤ 19 := by have := hGn.out; have := hFn.out; have := hln.out; omega
      clear KD B5 hGr hr4 z0 z1 z2
      go_wp2_with fail
      have hbase : b10 < wr.heap.size := hbs1
      generalize w4.heap.size = bs at *
      generalize wr.heap.size = base at *
      go_loopw [17, 53] (fun _ iv wx => ∃ (j q2 : Nat) (D2 : DataW Unit) (seen : List ByteArray) (acc : List Sd), j ≤ GV.length ∧ iv = .int .i64 j ∧ q2 ≤ 20 * j ∧ DcK w ⟨sz, mn, rs⟩ b10 bm q D bs q2 D2 base (.slice A2 n2 c2) n2 acc wx ∧ RGr wx A5 GV.length GV ∧ Hid (SeenM D2 seen) ∧ Hid (SeenIs seen ((GV.take j).flatMap (nmsOf F))) ∧ Hid (acc = (GV.take j).foldl (sortG T) F) ∧ Hid (∀ g ∈ GV.drop j, acc.drop g.1 = F.drop g.1) ∧ Hid (acc.length = n2 ∧ ∀ x ∈ acc, x ∈ F)) (fun _ iv _ => GV.length - (intOf iv).toNat)
      case atStart => exact ⟨0, 0, .map [], [], F, Nat.zero_le _, rfl, by omega, K5, rG, Lib.hid SeenM.nil, Lib.hid SeenIs.nil, Lib.hid rfl, Lib.hid (fun g _ => rfl), Lib.hid ⟨hl2'.out, fun x hx => hx⟩⟩
      case round =>
        clear K5 rG
        rename World => wx
        obtain ⟨j, q2, D2, seen, acc, hj, rfl, hq2, K, rG, hSM, hSI, hA, hDr, hAm⟩ := hrel
        by_cases hlg : j < GV.length
        · obtain ⟨bG, oG, g, rfl, hbl, hg, c0, c1⟩ := RGr_at2 rG hlg
          obtain ⟨g0, g1⟩ := hGb.out g (List.mem_of_getElem? hg)
          rw [hl2'.out] at g1
          obtain ⟨hAl, hAx⟩ := hAm.out
          have hnm := Lib.hid (show nmsOf acc g = nmsOf F g from nmsOf_drop (hDr.out g (by rw [drop_at hg]; exact List.mem_cons_self ..)))
          have hDr2 := Lib.hid (sort_later (T := T) hGp.out hg (by omega) (by omega) hDr.out)
          have hA2 := Lib.hid (show sortG T acc g = (GV.take (j + 1)).foldl (sortG T) F by rw [List.take_add_one, hg, List.foldl_append, hA.out]; rfl)
          have hAm2 := Lib.hid (show (sortG T acc g).length = n2 ∧ ∀ x ∈ sortG T acc g, x ∈ F from ⟨by rw [sortG_len (by omega), hAl], fun x hx => hAx x (sortG_mem (by omega) hx)⟩)
          have hN2 := Lib.hid (show (GV.take (j + 1)).flatMap (nmsOf F) = (GV.take j).flatMap (nmsOf F) ++ nmsOf F g by rw [List.take_add_one, hg, List.flatMap_append]; simp)
          have hcut := Lib.hid (sortG_cut (L := acc) (lo := g.1) (hi := g.2) (by omega))
          have hsd := Lib.hid (show sortG T acc g = acc.take g.1 ++ (insL (ltOf fun x y => tmCf (T x.who) (T y.who)) ((acc.drop g.1).take (g.2 - g.1)) ++ acc.drop g.2) from rfl)
          obtain ⟨lo, hi⟩ := g
          dsimp only at *
          rcases hcp.out with ⟨_, h9, _⟩ | ⟨gb, hAF, hcF⟩
          · omega
          subst hAF
          have j0 : (0 : Int) ≤ (lo : Int) := by omega
          have j1 : (lo : Int) ≤ (hi : Int) := by omega
          have j2 : (hi : Int) ≤ (c2 : Int) := by omega
          have hb5 := heap_alloc_new wx (.cells #[.int .i64 lo, .int .i64 hi] 126)
          have x0 := (blk_facts hb5).1 0
          have x1 := (blk_facts hb5).1 1
          have hbd := below_new wx (.cells #[.int .i64 lo, .int .i64 hi] 126)
          have K6 := K.below hbd
          have rG6 := rG.below hbd
          clear hg hb5 K rG hA hDr hAm hbd
          go_wp2_with fail
          generalize wx.alloc (.cells #[.int .i64 lo, .int .i64 hi] 126) = w6 at *
          clear x0 x1 c0 c1
          go_loopw [65] (fun iv wy => ∃ (i q3 : Nat) (D3' : DataW Unit) (seen3 : List ByteArray), i ≤ hi - lo ∧ iv = .int .i64 i ∧ q3 ≤ q2 + i ∧ DcK w ⟨sz, mn, rs⟩ b10 bm q D bs q3 D3' base (.slice (some ⟨gb, 0, none⟩) n2 c2) n2 acc wy ∧ RGr wy (some ⟨bG, oG, none⟩) GV.length GV ∧ Hid (SeenM D3' seen3) ∧ Hid (SeenIs seen3 ((GV.take j).flatMap (nmsOf F) ++ (nmsOf acc (lo, hi)).take i))) (fun iv _ => (hi - lo) - (intOf iv).toNat)
          case atStart => exact ⟨0, q2, D2, seen, Nat.zero_le _, rfl, Nat.le_refl _, K6, rG6, hSM, by rw [List.take_zero, List.append_nil]; exact hSI⟩
          case round =>
            clear K6 rG6 hSM hSI
            rename World => wy
            obtain ⟨i, q3, D3', seen3, hi3, rfl, hq3, K, rG, hSM, hSI⟩ := hrel
            by_cases hli : i < hi - lo
            · have hRm : RSd wy (some ⟨gb, lo * 2, none⟩) (hi - lo) ((acc.drop lo).take (hi - lo)) := (RN.of_own sdE_len K.o hAl (by omega)).mid (by omega) (by omega)
              obtain ⟨b, off', x, hA9, hbl, hx, c0, c1⟩ := RSd_at2 hRm hli
              injection hA9 with hA9
              injection hA9 with e1 e2
              subst e1 e2
              have hxm : x ∈ acc := List.mem_of_mem_drop (List.mem_of_mem_take (List.mem_of_getElem? hx))
              have hsz := hkb.out x (hAx x hxm)
              have hSI2 := Lib.hid (show SeenIs (x.who :: seen3) ((GV.take j).flatMap (nmsOf F) ++ (nmsOf acc (lo, hi)).take (i + 1)) by
                have h9 := hSI.out.snoc x.who
                rw [List.append_assoc] at h9
                have e9 : (nmsOf acc (lo, hi)).take (i + 1) = (nmsOf acc (lo, hi)).take i ++ [x.who] := by
                  unfold nmsOf; dsimp only; rw [List.take_add_one, List.getElem?_map, hx]; rfl
                rw [e9]; exact h9)
              have hSM2 := Lib.hid (hSM.out.put x.who)
              obtain ⟨who, time⟩ := x
              dsimp only at *
              have hbd := below_new wy (.cells #[.string who, .int .i64 time] 86)
              have K7 := K.below hbd
              have rG7 := rG.below hbd
              have z0 := (blk_facts (heap_alloc_new wy (.cells #[.string who, .int .i64 time] 86))).1 0
              have hm3 := K7.ms
              clear hx hxm hSI hSM K rG hbd hRm
              go_wp2_with (at_mapUpdate; refine wpList_mapUpdate_own _ rfl _ _ _ 128 rfl 9 4 (string_keyed Tryz.underlying9) Tryz.underlying128 _ _ q3 _ rfl hm3 (by unfold maxLen; omega) _ _ _ rfl rfl (keyOf_string_mk Tryz.underlying9 (by unfold maxLen; omega)) _ [] (plainElem_bool Tryz.underlying4 true) ?_; intro w9 hown9 hg9)
              have K9 := K7.put hown9 hg9
              have rG9 : RGr w9 (some ⟨bG, oG, none⟩) GV.length GV := rG7.kept_map hm3 hg9
              clear hm3 hown9 hg9 K7 rG7 c0 c1 z0
              go_roundw
              case rel => exact ⟨i + 1, q3 + 1, _, _, by omega, by go_num, by omega, K9, rG9, hSM2, hSI2⟩
              case measure => simp [intOf]; omega
            · obtain rfl : i = hi - lo := by omega
              have hfull := Lib.hid (show SeenIs seen3 ((GV.take (j + 1)).flatMap (nmsOf F)) by
                have h9 := hSI.out
                rw [hN2.out, ← hnm.out]
                rwa [List.take_of_length_le (show (nmsOf acc (lo, hi)).length ≤ hi - lo by unfold nmsOf; rw [List.length_map, List.length_take]; exact Nat.min_le_left _ _)] at h9)
              have hPl' : (acc.take lo).length = lo := by rw [List.length_take]; omega
              have hSl : ((acc.drop lo).take (hi - lo)).length = hi - lo := by rw [List.length_take, List.length_drop]; omega
              have hown : wy.ownsRow base 86 2 (.slice (some ⟨gb, 0, none⟩) n2 c2) n2 ((acc.take lo ++ ((acc.drop lo).take (hi - lo) ++ acc.drop hi)).flatMap sdE) := by rw [← hcut.out]; exact K.o
              have hgbb := own_row_lt K.o gb rfl
              have hSo := dcSort_c b10 bm q D T base gb n2 c2 (c2 - lo) (acc.take lo) ((acc.drop lo).take (hi - lo)) (acc.drop hi) wy hown (by omega) (by omega) (fun x hx => hkb.out x (hAx x (by rw [hcut.out]; exact hx))) K.h10 K.mt hMT'.out (by omega) (by omega)
              rw [hPl', hSl, ← hsd.out] at hSo
              have hSo' := Lib.hid hSo
              clear hSo hown hPl' hSl hSI
              go_wp2_with fail
              refine hSo'.out.mono ?_; rintro e w9 ⟨rfl, ho9, hg9⟩
              have K9 := K.sort ho9 (gb := gb) rfl hg9
              have rG9 : RGr w9 (some ⟨bG, oG, none⟩) GV.length GV := rG.keep (T := 86) (by decide) (keep_ownN K.o hg9)
              clear hSo' ho9 hg9 K rG
              go_wp2
              go_roundw
              case rel => exact ⟨j + 1, q3, D3', seen3, _, by omega, by go_num, by omega, K9, rG9, hSM, hfull, hA2, hDr2, hAm2⟩
              case measure => simp [intOf]; omega
        · obtain rfl : j = GV.length := by omega
          have hfin : acc = DV := by rw [hDV.out, hA.out, List.take_of_length_le (Nat.le_refl _)]
          have hSI' := Lib.hid (show SeenIs seen NM by have h9 := hSI.out; rw [List.take_of_length_le (Nat.le_refl _), ← hoff.out] at h9; exact h9)
          subst hfin
          obtain ⟨hAl, _⟩ := hAm.out
          clear hA hDr hSI rG hAm
          go_wp2_with fail
          have hk300 : k ≤ 300 := by have := hlo.out; omega
          go_loopw [79] (fun iv wy => ∃ (i : Nat), i ≤ k ∧ iv = .int .i64 i ∧ DcK w ⟨sz, mn, rs⟩ b10 bm q D bs q2 D2 base (.slice A2 n2 c2) n2 acc wy) (fun iv _ => k - (intOf iv).toNat)
          case atStart => exact ⟨0, Nat.zero_le _, rfl, K⟩
          case round =>
            clear K
            rename World => wy
            obtain ⟨i, hi3, rfl, K⟩ := hrel
            by_cases hli : i < k
            · obtain ⟨b, off', x, rfl, hbl, hx, c0, c1⟩ := RSd_at2 (hRO.out _ K.bel) hli
              have hsz := (hko.out i x hx).1
              have hinx := hin'.out i x hx
              obtain ⟨who, time⟩ := x
              dsimp only at *
              have hbd := below_new wy (.cells #[.string who, .int .i64 time] 86)
              have K7 := K.below hbd
              have z0 := (blk_facts (heap_alloc_new wy (.cells #[.string who, .int .i64 time] 86))).1 0
              obtain ⟨v7, hrun8, hat8⟩ := mb_lookup K7.ms who (by unfold maxLen; omega)
              rw [hSM.out.2 who, hSI'.out who, hinx] at hat8
              have hv7 : true = v7 := (by injection hat8 with e; injection e)
              subst hv7
              clear hx hbd K hat8 hinx
              go_wp2
              go_roundw
              case rel => exact ⟨i + 1, by omega, by go_num, K7⟩
              case measure => simp [intOf]; omega
            · obtain rfl : i = k := by omega
              have hr9 : RSd wy A2 n2 acc := RN.of_own sdE_len K.o hAl (by omega)
              have hPl2 := Lib.hid (hPl.out A2 n2 c2 acc wy hr9 (by omega))
              obtain ⟨z0, z1, z2⟩ := hFa.out _ K.fb
              have hBw := K.bel
              clear K hr9 hPl
              go_wp2_with fail
              refine hPl2.out.mono ?_; rintro e w9 ⟨A9, n9, c9, rfl, ho9, hn9, B9⟩
              have hB9 := below_next hBw B9
              have hr9 : RPc w9 A9 n9 (plc ⟨sz, mn, rs⟩ acc 0 acc) := RN.of_own pcE_len ho9 (own_len pcE_len (by decide) ho9) (by omega)
              clear hPl2 ho9 B9 hBw z0 z1 z2
              go_wp2
              go_ret2
              exact ⟨A9, n9, c9, rfl, hr9, hB9⟩
end Go.Proofs.YtjafcnblgeibpaaGreatDoor
