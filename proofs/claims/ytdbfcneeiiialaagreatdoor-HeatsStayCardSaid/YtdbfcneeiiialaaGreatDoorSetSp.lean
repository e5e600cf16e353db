import Derived.Test.YtdbfcneeiiialaaGreatDoorScrP
import Derived.DeepKeys4
import Derived.WideKeyPair
import Derived.Test.YtdbfcneeiiialaaGreatDoorSortH
import Derived.Test.YtdbfcneeiiialaaGreatDoorApp2
import Derived.Laws.StructEq
import Derived.Shelf.SlSortCmp.WholeK
import Derived.Deep.QuietTactic
import Derived.BigQuiet
import Derived.BigGuardPart
/- tumbref1.EmptyOf: the lanes in which nobody swims. -/
namespace Go.Proofs.YtdbfcneeiiialaaGreatDoor
open Go.RowKit Go.Shelf Go.Lib Go.Sort
set_option linter.unusedVariables false

/-- somebody swims there -/
def tkn (l : List Sp) (h ln : Int) : Bool := l.any fun x => decide (x.heat = h ∧ x.lane = ln)
def emL (l : List Sp) (h : Int) : Int → Nat → List Sp
  | _, 0 => []
  | ln, m + 1 => (if tkn l h ln = true then [] else [⟨⟨#[]⟩, h, ln⟩]) ++ emL l h (ln + 1) m
def emH (p : Pl) (l : List Sp) : Int → Nat → List Sp
  | _, 0 => []
  | h, m + 1 => emL l h p.lo (p.hi + 1 - p.lo).toNat ++ emH p l (h + 1) m
def maxG : Int → List Sp → Int
  | m, [] => m
  | m, x :: l => maxG (max m x.heat) l
def lastG : Int → List Sp → Int
  | m, [] => m
  | _, x :: l => lastG x.heat l
def emptyL (p : Pl) (l : List Sp) : List Sp := emH p l 1 (maxG 0 l).toNat
theorem maxG_at (m : Int) {l : List Sp} {k : Nat} {x : Sp} (h : l[k]? = some x) : maxG m (l.drop k) = maxG (max m x.heat) (l.drop (k + 1)) := by rw [drop_at h]; rfl
theorem lastG_at (m : Int) {l : List Sp} {k : Nat} {x : Sp} (h : l[k]? = some x) : lastG m (l.drop k) = lastG x.heat (l.drop (k + 1)) := by rw [drop_at h]; rfl
/-- what right starts keep -/
structure StsOk (p : Pl) (l : List Sp) : Prop where
  pool : PlOk p
  len : l.length ≤ 300
  all : ∀ x ∈ l, keyB x.who = true ∧ (1 ≤ x.heat ∧ x.heat ≤ 60) ∧ (p.lo ≤ x.lane ∧ x.lane ≤ p.hi)
  last : lastG 0 l = maxG 0 l
theorem startsGo_ok {p : Pl} : ∀ (l : List Sp) (seen : List ByteArray) (tw gap : Bool) (last m : Int) (prev : Option Sp), startsGo p seen tw gap last prev l = 0 → (∀ y, prev = some y → m = y.heat) → (prev = none → m = 0) → (∀ x ∈ l, keyB x.who = true ∧ (1 ≤ x.heat ∧ x.heat ≤ 60) ∧ (p.lo ≤ x.lane ∧ x.lane ≤ p.hi)) ∧ lastG m l = maxG m l
  | [], _, _, _, _, _, _, _, _, _ => ⟨fun x hx => (by cases hx), rfl⟩
  | x :: l, seen, tw, gap, last, m, prev, h, h1, h2 => by
    rw [startsGo] at h
    split at h
    · rename_i h3; exact absurd h h3
    · rename_i h3
      have h4 : stErr p prev x = 0 := Decidable.not_not.1 h3
      obtain ⟨i1, i2⟩ := startsGo_ok l _ _ _ _ x.heat (some x) h (fun y hy => by rw [Option.some.inj hy]) (fun hy => by cases hy)
      have h5 := stErr_ok h4
      have h6 : m ≤ x.heat := by
        cases prev with
        | none => rw [h2 rfl]; omega
        | some y => rw [h1 y rfl]; exact stErr_prev h4
      refine ⟨fun y hy => ?_, ?_⟩
      · rcases List.mem_cons.1 hy with rfl | hy
        · exact h5
        · exact i1 y hy
      · show lastG x.heat l = maxG (max m x.heat) l
        rw [Int.max_eq_right h6]; exact i2
theorem startsErr_ok {p : Pl} {l : List Sp} (h : startsErr p l = 0) : StsOk p l := by
  unfold startsErr at h
  split at h
  · rename_i h1; exact absurd h h1
  · rename_i h1
    split at h
    · cases h
    · rename_i h2
      obtain ⟨i1, i2⟩ := startsGo_ok l _ _ _ _ 0 none h (fun y hy => by cases hy) (fun _ => rfl)
      exact ⟨poolErr_ok (Decidable.not_not.1 h1), by omega, i1, i2⟩
/-- a block of another element type than the row that is written -/
theorem blk_otherT {w w' : World} {base b : Nat} {e t : TypeId} {size n : Nat} {v : Value} {xs : List Value} {cs : Array Value} {fz : Nat × Nat} (h : w.heap[b]? = some (.cells cs t fz)) (hown : w.ownsRow base e size v n xs) (hne : e ≠ t) (hg : w.grownBy w' v.ownBlock) : w'.heap[b]? = some (.cells cs t fz) :=
  blk_grown h hg (fun he => by
    rcases hown.2 with ⟨rfl, _⟩ | ⟨g', cap, cur, rfl, _, hh, _⟩
    · simp [Value.ownBlock] at he
    · have e1 : b = g' := by simpa [Value.ownBlock] using he
      subst e1
      rw [h] at hh
      injection hh with hh
      injection hh with _ ht
      exact hne ht.symm)
/-- what is carried -/
structure EoK (w : World) (p : Pl) (u : Value) (acc : List Sp) (wx : World) : Prop where
  o : wx.ownsRow (w.heap.size + 1) 111 3 u acc.length (acc.flatMap spE)
  pb : PoolB w.heap.size p wx
  bel : Below w.heap.size w wx
  z : w.heap.size + 1 ≤ wx.heap.size
section
variable {w wx w' : World} {p : Pl} {u : Value} {acc : List Sp}
theorem EoK.below (h : EoK w p u acc wx) (B : Below wx.heap.size wx w') : EoK w p u acc w' := ⟨own_below h.o B, h.pb.keep _ _ B, below_next h.bel B, Nat.le_trans h.z B.size⟩
theorem EoK.app (h : EoK w p u acc wx) {v' : Value} (x : Sp) (ho : w'.ownsRow (w.heap.size + 1) 111 3 v' (acc.length + 1) (acc.flatMap spE ++ spE x)) (hg : wx.grownBy w' u.ownBlock) : EoK w p v' (acc ++ [x]) w' := by
  refine ⟨?_, blk_grown h.pb hg (fun e => by have := own_row_lt h.o _ e.symm; omega), below_own h.bel h.o hg h.bel.size (by omega), Nat.le_trans h.z hg.size⟩
  rw [List.length_append, ← flat_snoc]; exact ho
/-- a new box that counts on -/
theorem EoK.tick (h : EoK w p u acc wx) (a b : Value) (t : TypeId) : EoK w p u acc ((wx.alloc (.cells #[a] t)).setCell ⟨wx.heap.size, 0, none⟩ b) := by
  have B := below_new wx (.cells #[a] t)
  have hz := h.z
  have hg : (wx.alloc (.cells #[a] t)).grownBy ((wx.alloc (.cells #[a] t)).setCell ⟨wx.heap.size, 0, none⟩ b) (some wx.heap.size) := grown_setCell (grown_refl _ _) (.inl rfl) _
  exact ⟨(own_below h.o B).kept hg (by by_cases e : u.ownBlock = some wx.heap.size; exact absurd (h.o.lt _ e).2 (by omega); exact .inr e), blk_other (h.pb.keep _ _ B) (by show w.heap.size ≠ wx.heap.size; omega) _, Below.setCell (below_next h.bel B) (by show w.heap.size ≤ wx.heap.size; omega) _, Nat.le_trans (Nat.le_trans hz B.size) hg.size⟩
theorem blk_tick {wx : World} {b : Nat} {o : Obj} (h : wx.heap[b]? = some o) (a c : Value) (t : TypeId) : ((wx.alloc (.cells #[a] t)).setCell ⟨wx.heap.size, 0, none⟩ c).heap[b]? = some o :=
  blk_other (blk_alloc h _) (by have := lt_of_heap h; show b ≠ wx.heap.size; omega) _
theorem new_tick (wx : World) (a c : Value) (t : TypeId) : ((wx.alloc (.cells #[a] t)).setCell ⟨wx.heap.size, 0, none⟩ c).heap[wx.heap.size]? = some (.cells #[c] t (0, 0)) := blk_set (heap_alloc_new wx (.cells #[a] t)) 0 c
end
theorem maxG_ge : ∀ (l : List Sp) (m : Int), m ≤ maxG m l
  | [], m => Int.le_refl _
  | x :: l, m => Int.le_trans (Int.le_max_left _ _) (maxG_ge l (max m x.heat))
/-- the number in a box -/
def boxI (w : World) : Value → Int
  | .pointer (some a) => match w.cell? a with
    | some x => intOf x
    | none => 0
  | _ => 0
theorem boxI_at {w : World} {b : Nat} {v : Int} {t : TypeId} (h : w.heap[b]? = some (.cells #[.int .i64 v] t (0, 0))) : boxI w (.pointer (some ⟨b, 0, none⟩)) = v := by
  unfold boxI
  dsimp only
  rw [show w.cell? ⟨b, 0, none⟩ = some (.int .i64 v) from (blk_facts h).1 0]
  rfl
end Go.Proofs.YtdbfcneeiiialaaGreatDoor

/- map[heat.slot]bool: the keys. -/
namespace Go.Proofs.YtdbfcneeiiialaaGreatDoor
open Go.RowKit Go.Shelf Go.Lib Go.Sort
open Go.Maps (Keyed)
set_option linter.unusedVariables false

theorem slot_wide : (match (Tryz.prog).underlying 270 with | some (.array _ _) | some (.struct _) => true | _ => false) = true := by kernel_rfl
set_option maxRecDepth 100000 in
theorem slot_law : Keyed Tryz.prog 270 := Keyed.of_law (deep_law (m := 2) (by omega) (by kernel_rfl) (by kernel_rfl) slot_wide)
def sltB (a b : Int) : Lit := .string (keyBytes [.int .i64 a, .int .i64 b])
theorem slot_key {a b : Int} (ha : -1000 ≤ a ∧ a ≤ 1000) (hb : -1000 ≤ b ∧ b ≤ 1000) : keyOf Tryz.prog 270 (.agg #[.int .i64 a, .int .i64 b]) = some (sltB a b) := by
  have wa : (Lit.int .i64 a).wf = true := by simp [Lit.wf, IntKind.min, IntKind.max, IntKind.signed, IntKind.bits]; omega
  have wb : (Lit.int .i64 b).wf = true := by simp [Lit.wf, IntKind.min, IntKind.max, IntKind.signed, IntKind.bits]; omega
  have hk : (Tryz.prog).keyType 270 = true := by kernel_rfl
  have hc : (Tryz.prog).cellsOf 270 = 2 := by kernel_rfl
  have hi : (Tryz.prog).cellsOf 3 = 1 := by kernel_rfl
  obtain ⟨m, hm⟩ : ∃ m, (Tryz.prog).types.size = m + 1 := ⟨(Tryz.prog).types.size - 1, by have : 0 < (Tryz.prog).types.size := of_decide_eq_true (by kernel_rfl); omega⟩
  unfold keyOf
  simp only [Tryz.underlying270]
  rw [if_pos (by simp [hk, Value.formed, Tryz.underlying270, hc]), hm]
  unfold Program.keyLits
  simp only [Tryz.underlying270, Value.cells]
  rw [if_pos (by refine ⟨by rw [hc]; rfl, by simp⟩)]
  simp only [List.mapM_cons, List.mapM_nil]
  simp [hi, Program.keyLits, Tryz.underlying3, wa, wb, sltB]
theorem sltB_inj {a b c d : Int} (ha : -1000 ≤ a ∧ a ≤ 1000) (hb : -1000 ≤ b ∧ b ≤ 1000) (hc : -1000 ≤ c ∧ c ≤ 1000) (hd : -1000 ≤ d ∧ d ≤ 1000) (h : sltB a b = sltB c d) : a = c ∧ b = d := by
  have wf : ∀ x : Int, (-1000 ≤ x ∧ x ≤ 1000) → (Lit.int .i64 x).wf = true := fun x hx => by simp [Lit.wf, IntKind.min, IntKind.max, IntKind.signed, IntKind.bits]; omega
  unfold sltB at h
  injection h with h
  have := keyBytes_inj (l := [.int .i64 a, .int .i64 b]) (l' := [.int .i64 c, .int .i64 d]) ⟨rfl, rfl, trivial⟩ (fun x hx => by
    simp only [List.mem_cons, List.not_mem_nil, or_false] at hx
    rcases hx with rfl | rfl
    · exact wf a ha
    · exact wf b hb) (fun x hx => by
    simp only [List.mem_cons, List.not_mem_nil, or_false] at hx
    rcases hx with rfl | rfl
    · exact wf c hc
    · exact wf d hd) h
  simp at this
  exact this
end Go.Proofs.YtdbfcneeiiialaaGreatDoor

/- heat.Empty. -/
namespace Go.Proofs.YtdbfcneeiiialaaGreatDoor
open Go.RowKit Go.Shelf Go.Lib Go.Sort
open Go.Maps (Keyed)
set_option linter.unusedVariables false

abbrev MSB (w : World) (b n : Nat) (D : DataW Unit) : Prop := w.ownsMap Tryz.prog 270 (plainElem Tryz.prog 4) b n D
theorem msb_lookup {w : World} {b n : Nat} {D : DataW Unit} (h : MSB w b n D) {x y : Int} (hx : -1000 ≤ x ∧ x ≤ 1000) (hy : -1000 ≤ y ∧ y ≤ 1000) : ∃ v : Bool, (Instr.lookup 268 (.map (some b)) (.agg #[.int .i64 x, .int .i64 y]) false).run Tryz.prog w = .ok (.bool v) w ∧ D.atKey (sltB x y) (.lit (.bool false)) = .lit (.bool v) := by
  obtain ⟨v, ps, hrun, hv⟩ := h.lookup slot_law Tryz.underlying268 (Tryz.zeroValue4 w) (plainElem_bool Tryz.underlying4 false) (slot_key hx hy)
  obtain ⟨a, rfl, e⟩ := plainElem_bool_inv Tryz.underlying4 hv
  injection e with e1 e2
  exact ⟨a, hrun, e1⟩
/-- the lanes that were met -/
def SlI (D : DataW Unit) (l : List Sp) : Prop := Go.Maps.IsMap D ∧ ∀ a b : Int, (-1000 ≤ a ∧ a ≤ 1000) → (-1000 ≤ b ∧ b ≤ 1000) → D.atKey (sltB a b) (.lit (.bool false)) = .lit (.bool (tkn l a b))
theorem SlI.nil : SlI (.map []) [] := ⟨Go.Maps.isMap_empty, fun a b _ _ => by rw [atKey_nil]; rfl⟩
theorem SlI.snoc {D : DataW Unit} {l : List Sp} (h : SlI D l) (x : Sp) (h1 : -1000 ≤ x.heat ∧ x.heat ≤ 1000) (h2 : -1000 ≤ x.lane ∧ x.lane ≤ 1000) : SlI (D.put (sltB x.heat x.lane) (.lit (.bool true))) (l ++ [x]) := by
  refine ⟨h.1.put _ _, fun a b ha hb => ?_⟩
  have e : tkn (l ++ [x]) a b = (tkn l a b || decide (x.heat = a ∧ x.lane = b)) := by
    unfold tkn
    rw [List.any_append]; simp
  rw [e]
  by_cases hc : x.heat = a ∧ x.lane = b
  · obtain ⟨rfl, rfl⟩ := hc
    rw [Go.Maps.atKey_put_same h.1 (by trivial)]
    simp
  · rw [Go.Maps.atKey_put_other (fun e2 => hc (by obtain ⟨i1, i2⟩ := sltB_inj ha hb h1 h2 e2; exact ⟨i1.symm, i2.symm⟩)), h.2 a b ha hb, decide_eq_false hc, Bool.or_false]
structure EpK (w : World) (p : Pl) (bm q : Nat) (D : DataW Unit) (u : Value) (acc : List Sp) (wx : World) : Prop where
  m : MSB wx bm q D
  o : wx.ownsRow (bm + 1) 111 3 u acc.length (acc.flatMap spE)
  pb : PoolB w.heap.size p wx
  bel : Below w.heap.size w wx
  l1 : w.heap.size < bm
  l3 : bm + 1 ≤ wx.heap.size
section
variable {w wx w' : World} {p : Pl} {bm q : Nat} {D : DataW Unit} {u : Value} {acc : List Sp}
theorem EpK.below (h : EpK w p bm q D u acc wx) (B : Below wx.heap.size wx w') : EpK w p bm q D u acc w' :=
  ⟨h.m.kept (row := none) (grown_of_below B) (by simp), own_below h.o B, h.pb.keep _ _ B, below_next h.bel B, h.l1, Nat.le_trans h.l3 B.size⟩
theorem EpK.put (h : EpK w p bm q D u acc wx) {q9 : Nat} {D9 : DataW Unit} (ho : MSB w' bm q9 D9) (hg : wx.grownBy w' (some bm)) : EpK w p bm q9 D9 u acc w' := by
  have a1 := h.l1
  exact ⟨ho, own_keep h.o (Nat.lt_succ_self _) hg, blk_grown h.pb hg (fun e => by have := Option.some.inj e; omega), h.bel.trans (grown_below hg (by omega) h.bel.size), h.l1, Nat.le_trans h.l3 hg.size⟩
theorem EpK.app (h : EpK w p bm q D u acc wx) {v9 : Value} (x : Sp) (ho : w'.ownsRow (bm + 1) 111 3 v9 (acc.length + 1) (acc.flatMap spE ++ spE x)) (hg : wx.grownBy w' u.ownBlock) : EpK w p bm q D v9 (acc ++ [x]) w' := by
  have a1 := h.l1
  have hb : ∀ i, u.ownBlock = some i → bm + 1 ≤ i := own_row_lt h.o
  refine ⟨h.m.kept hg (fun e => by have := hb _ e.symm; omega), by rw [List.length_append, ← flat_snoc]; exact ho, blk_grown h.pb hg (fun e => by have := hb _ e.symm; omega), below_own h.bel h.o hg h.bel.size (by omega), h.l1, Nat.le_trans h.l3 hg.size⟩
end
set_option maxHeartbeats 6400000 in
set_option maxRecDepth 100000 in
theorem empty_c (p : Pl) (hpb : PlBd p) (A : Option Addr) (n c : Nat) (l : List Sp) (w : World) (h : RSp w A n l) :
    Calls Tryz.prog 152 #[p.val, .slice A n c] w fun e w' => ∃ A' n' c', e = .returned (.tuple #[.slice A' n' c', .int .i64 (startsErr p l)]) ∧ RSp w' A' n' (if startsErr p l = 0 then emptyL p l else []) ∧ n' ≤ 1000 ∧ ((A' = none ∧ n' = 0 ∧ c' = 0) ∨ ∃ b, A' = some ⟨b, 0, none⟩ ∧ n' ≤ c') ∧ Below w.heap.size w w' := by
  have hR := Lib.hid (fun W B => h.below (w' := W) B)
  have hl := Lib.hid h.len
  have hB1 := below_new w (.cells p.cells 97)
  have hp1 : PoolB w.heap.size p (w.alloc (.cells p.cells 97)) := heap_alloc_new w _
  have hCS := Lib.hid (checkStarts_c p hpb A n c l _ (h.below hB1))
  obtain ⟨z0, z1, z2, z3⟩ := hp1.at_
  by_cases h0 : startsErr p l = 0
  rotate_left
  · have hd : (startsErr p l != 0) = true := by simpa using h0
    have h0' := Lib.hid h0
    clear h h0 hR hpb
    generalize startsErr p l = E at *
    obtain ⟨lo, hi, le, ci⟩ := p
    dsimp only [Pl.val, Pl.cells] at *
    go_enter Tryz.func152, Tryz.ntmps152
    go_wp2_with fail
    refine hCS.out.mono ?_; rintro e w1 ⟨rfl, B1⟩
    have hB2 := below_next hB1 B1
    go_wp2
    go_ret2
    exact ⟨none, 0, 0, rfl, RN.nil_ _ _ _ _ _, Nat.zero_le _, .inl ⟨rfl, rfl, rfl⟩, hB2⟩
  have hs := startsErr_ok h0
  rw [h0] at hCS ⊢
  have hn := hs.len
  rw [h.len] at hn
  have hal := Lib.hid hs.all
  have hMx := Lib.hid (fun m k x (hx : l[k]? = some x) => lastG_at m hx)
  obtain ⟨⟨p0, p1⟩, p2, ⟨p3, p4⟩, p5, p6⟩ := hs.pool
  have hEm := Lib.hid (show emptyL p l = emH p l 1 (lastG 0 l).toNat by rw [hs.last]; rfl)
  have hL0 := Lib.hid (fun hh ln => show emL l hh ln 0 = [] from rfl)
  have hLs := Lib.hid (fun hh ln m => show emL l hh ln (m + 1) = (if tkn l hh ln = true then [] else [⟨⟨#[]⟩, hh, ln⟩]) ++ emL l hh (ln + 1) m from rfl)
  have hH0 := Lib.hid (fun hh => show emH p l hh 0 = [] from rfl)
  have hHn := Lib.hid (fun hh m => show emH p l hh (m + 1) = emL l hh p.lo (p.hi + 1 - p.lo).toNat ++ emH p l (hh + 1) m from rfl)
  have hM0 := Lib.hid (fun m => show lastG m [] = m from rfl)
  have hS0 := Lib.hid SlI.nil
  have hSp := Lib.hid (fun D l (h : SlI D l) x h1 h2 => h.snoc x h1 h2)
  have hSq := Lib.hid (fun D l (h : SlI D l) a b h1 h2 => h.2 a b h1 h2)
  have hK0 := Lib.hid (fun (v : World) (hp : PoolB w.heap.size p v) (B : Below w.heap.size w v) => show EpK w p v.heap.size 0 (.map []) (.slice none 0 0) [] (v.alloc (.map #[] 0)) from ⟨World.ownsMap_made v _ _ _, World.ownsRow_nil _ _ _ _, blk_alloc hp _, B.alloc B.size _, lt_of_heap hp, by simp⟩)
  have hKb := Lib.hid (fun bm q D u acc a v (h : EpK w p bm q D u acc a) B => EpK.below (w' := v) h B)
  have hKq := Lib.hid (fun bm q D u acc a v (h : EpK w p bm q D u acc a) q9 D9 ho hg => EpK.put (w' := v) h (q9 := q9) (D9 := D9) ho hg)
  have hKa := Lib.hid (fun bm q D u acc a (h : EpK w p bm q D u acc a) v' w' x ho hg => h.app (v9 := v') (w' := w') x ho hg)
  have hKg := Lib.hid (fun bm q D u acc v (h : EpK w p bm q D u acc v) => And.intro h.m (And.intro h.o (And.intro h.pb.at_ (And.intro h.bel (And.intro h.l1 h.l3)))))
  have hKx := Lib.hid (fun v (hp : PoolB w.heap.size p v) v2 B => PoolB.keep v v2 hp B)
  have hmm := @run_makeMap Tryz.prog
  obtain ⟨EL, hEL⟩ : ∃ EL, emptyL p l = EL := ⟨_, rfl⟩
  rw [hEL] at hEm ⊢
  obtain ⟨mx, hmx⟩ : ∃ mx, lastG 0 l = mx := ⟨_, rfl⟩
  rw [hmx] at hEm
  have hmx' := Lib.hid hmx
  clear h hs hEL hmx hpb h0
  generalize lastG = MG at *
  generalize emH p l = EH at *
  generalize emL l = EM at *
  generalize SlI = SI at *
  obtain ⟨lo, hi, le, ci⟩ := p
  dsimp only [Pl.val, Pl.cells] at *
  generalize EpK w ⟨lo, hi, le, ci⟩ = EK at *
  go_enter Tryz.func152, Tryz.ntmps152
  go_wp2_with fail
  refine hCS.out.mono ?_; rintro e w1 ⟨rfl, B1⟩
  have K0 := hK0.out w1 (hKx.out _ hp1 _ B1) (below_next hB1 B1)
  clear hCS hB1 hp1 B1 hK0 hKx z0 z1 z2 z3
  go_wp2_with fail
  generalize w1.alloc (.map #[] 0) = w2 at *
  generalize w1.heap.size = bm at *
  go_loopw [8, 23] (fun m i wr => ∃ (k q : Nat) (mm : Int) (D : DataW Unit), k ≤ n ∧ i = .int .i64 k ∧ m = .int .i64 mm ∧ (0 ≤ mm ∧ mm ≤ 60) ∧ q ≤ k ∧ EK bm q D (.slice none 0 0) [] wr ∧ Hid (SI D (l.take k)) ∧ Hid (MG mm (l.drop k) = mx)) (fun _ i _ => n - (intOf i).toNat)
  case atStart => exact ⟨0, 0, 0, .map [], Nat.zero_le _, rfl, rfl, by omega, Nat.le_refl _, K0, Lib.hid hS0.out, Lib.hid hmx'.out⟩
  case round =>
    clear K0 hS0
    rename World => wr
    obtain ⟨k, q, mm, D, hk, rfl, rfl, ⟨m0, m1⟩, hq, K, hI, hG⟩ := hrel
    by_cases hlt : k < n
    · obtain ⟨b, off, x, rfl, hbl, hx, c0, c1, c2⟩ := RSp_at3 (hR.out _ (hKg.out _ _ _ _ _ _ K).2.2.2.1) hlt
      have hst := Lib.hid (hMx.out mm k x hx)
      obtain ⟨_, ⟨x1, x2⟩, ⟨x3, x4⟩⟩ := hal.out x (List.mem_of_getElem? hx)
      have hI2 := Lib.hid (show SI _ (l.take (k + 1)) from by rw [List.take_add_one, hx]; exact hSp.out _ _ hI.out x (by omega) (by omega))
      obtain ⟨who, heat, lane⟩ := x
      dsimp only at *
      have hb5 := heap_alloc_new wr (.cells #[.string who, .int .i64 heat, .int .i64 lane] 111)
      have y1 := (blk_facts hb5).1 1
      have y2 := (blk_facts hb5).1 2
      have K5 := hKb.out _ _ _ _ _ _ _ K (below_new wr (.cells #[.string who, .int .i64 heat, .int .i64 lane] 111))
      have hG2 := Lib.hid (show MG heat (l.drop (k + 1)) = mx by rw [← hG.out, hst.out])
      obtain ⟨hm5, _, _, _, hl1, hl3⟩ := hKg.out _ _ _ _ _ _ K5
      have hb7 : bm < wr.heap.size := (hKg.out _ _ _ _ _ _ K).2.2.2.2.2
      clear hx K hG hst hI
      go_wp2_with fail
      generalize wr.alloc (.cells #[.string who, .int .i64 heat, .int .i64 lane] 111) = w5 at *
      generalize wr.heap.size = b7 at *
      have hb5' := Lib.hid hb5
      clear hb5
      have hm5d : MSB w5.drew bm q D := hm5.kept (row := none) (grown_of_below (below_drewN (Below.refl w5.heap.size w5) 1)) (by simp)
      have K5d := hKb.out _ _ _ _ _ _ _ K5 (below_drewN (Below.refl w5.heap.size w5) 1)
      have hb5d := blk_below hb5'.out (below_drewN (Below.refl w5.heap.size w5) 1)
      obtain ⟨w6, hrun, hown6, hg6⟩ := hm5d.update slot_law Tryz.underlying268 (by unfold maxLen; omega) (slot_key (a := heat) (b := lane) (by omega) (by omega)) (plainElem_bool Tryz.underlying4 true)
      have K6 := hKq.out _ _ _ _ _ _ _ K5d _ _ hown6 hg6
      have hb6 := blk_grown hb5d hg6 (fun e => by have := Option.some.inj e; omega)
      have g1 : w6.cell? ⟨b7, 1, none⟩ = some (.int .i64 heat) := (blk_facts hb6).1 1
      have g2 : w6.cell? ⟨b7, 2, none⟩ = some (.int .i64 lane) := (blk_facts hb6).1 2
      clear hm5 hm5d K5 K5d hb5d hown6 hg6 hb6
      go_region_held3 (fun w' => w'.cell? ⟨b7, 1, none⟩ = some (.int .i64 heat) ∧ w'.cell? ⟨b7, 2, none⟩ = some (.int .i64 lane)) (first | go_keep | with_reducible exact ⟨g1, g2⟩) (fail)
      go_wp2
      go_roundw
      case rel => exact ⟨k + 1, q + 1, heat, _, by omega, by go_num, rfl, by omega, by omega, K6, hI2, hG2⟩
      case measure => simp [intOf]; omega
    · obtain rfl : k = n := by omega
      obtain rfl : mm = mx := by rw [← hG.out, drop_end (by rw [hl.out]; exact Nat.le_refl _), hM0.out]
      have hIl : l.take k = l := List.take_of_length_le (by rw [hl.out]; exact Nat.le_refl _)
      rw [hIl] at hI
      have hTk := Lib.hid (fun a b h1 h2 => hSq.out D l hI.out a b h1 h2)
      clear hG hmx' hMx hI hIl
      go_wp2_with fail
      go_loopw [11, 12, 13] (fun u hp _ wx => ∃ (hh : Int) (acc : List Sp), hp = .int .i64 hh ∧ (1 ≤ hh ∧ hh ≤ mm + 1) ∧ EK bm q D u acc wx ∧ (acc.length : Int) ≤ 10 * (hh - 1) ∧ Hid (acc ++ EH hh (mm + 1 - hh).toNat = EL)) (fun _ hp _ wx => (mm + 1 - intOf hp).toNat)
      case atStart => exact ⟨1, [], rfl, by omega, K, by simp, Lib.hid (by rw [List.nil_append, hEm.out]; congr 1; omega)⟩
      case round =>
        clear K
        rename World => wx
        obtain ⟨hh, acc, rfl, ⟨h0, h1⟩, K, hal2, hG⟩ := hrel
        by_cases hlh : hh ≤ mm
        · obtain ⟨_, _, ⟨z0, z1, _, _⟩, _, _, _⟩ := hKg.out _ _ _ _ _ _ K
          have hst := Lib.hid (show acc ++ (EM hh lo (hi + 1 - lo).toNat ++ EH (hh + 1) (mm + 1 - (hh + 1)).toNat) = EL by
            have h1 := hG.out
            rw [show (mm + 1 - hh).toNat = (mm + 1 - (hh + 1)).toNat + 1 by omega, hHn.out] at h1
            exact h1)
          clear hG
          go_wp2_with fail
          go_loopw [11, 13] (fun u lp wy => ∃ (ln : Int) (acc2 : List Sp), lp = .int .i64 ln ∧ (lo ≤ ln ∧ ln ≤ hi + 1) ∧ EK bm q D u acc2 wy ∧ (acc2.length : Int) ≤ 10 * (hh - 1) + (ln - lo) ∧ Hid (acc2 ++ (EM hh ln (hi + 1 - ln).toNat ++ EH (hh + 1) (mm + 1 - (hh + 1)).toNat) = EL)) (fun _ lp wy => (hi + 1 - intOf lp).toNat)
          case atStart => exact ⟨lo, acc, rfl, by omega, K, by omega, hst⟩
          case round =>
            clear K hst z0 z1
            rename World => wy
            obtain ⟨ln, acc2, rfl, ⟨n0, n1⟩, K, hal3, hG⟩ := hrel
            obtain ⟨hm, hoo, ⟨z0, z1, _, _⟩, hbel, hl1, hl3⟩ := hKg.out _ _ _ _ _ _ K
            by_cases hll : ln ≤ hi
            · obtain ⟨v, hrun, hat⟩ := msb_lookup hm (x := hh) (y := ln) (by omega) (by omega)
              rw [hTk.out hh ln (by omega) (by omega)] at hat
              have hv : tkn l hh ln = v := by injection hat with e; injection e
              have hst := Lib.hid (show acc2 ++ (((if v = true then [] else [⟨⟨#[]⟩, hh, ln⟩]) ++ EM hh (ln + 1) (hi + 1 - (ln + 1)).toNat) ++ EH (hh + 1) (mm + 1 - (hh + 1)).toNat) = EL by
                have h1 := hG.out
                rw [show (hi + 1 - ln).toNat = (hi + 1 - (ln + 1)).toNat + 1 by omega, hLs.out, hv] at h1
                exact h1)
              have e9 : IntKind.i64.wrap (ln + 1) = ln + 1 := IntWalk.i64_in _ (by omega)
              clear hG hat hv hm
              cases v
              · have hG2 := Lib.hid (show (acc2 ++ [(⟨⟨#[]⟩, hh, ln⟩ : Sp)]) ++ (EM hh (ln + 1) (hi + 1 - (ln + 1)).toNat ++ EH (hh + 1) (mm + 1 - (hh + 1)).toNat) = EL by
                  have h1 := hst.out
                  rw [if_neg (by simp)] at h1
                  rw [← h1]; simp [List.append_assoc])
                clear hst
                go_wp2_with (at_builtin; refine wpList_app rfl (.tmp 55) (.tmp 59) 103 rfl Tryz.underlying103 info_start rfl (by omega) (by omega) hoo rfl rfl (by first | rfl | (simp; done)) rfl (by simp [Value.oneCell']) (by omega) hl3 ?_; intro v9 w9 ho9 hg9)
                have K9 := hKa.out _ _ _ _ _ _ K _ _ ⟨⟨#[]⟩, hh, ln⟩ ho9 hg9
                clear ho9 hg9 hoo hbel K
                go_wp2
                go_roundw
                case rel => exact ⟨ln + 1, _, rfl, by omega, K9, by rw [List.length_append]; push_cast; show (acc2.length : Int) + 1 ≤ _; omega, hG2⟩
                case measure => simp [intOf]; omega
              · have hG2 := Lib.hid (show acc2 ++ (EM hh (ln + 1) (hi + 1 - (ln + 1)).toNat ++ EH (hh + 1) (mm + 1 - (hh + 1)).toNat) = EL by
                  have h1 := hst.out
                  rw [if_pos rfl, List.nil_append] at h1
                  exact h1)
                clear hst
                go_wp2
                go_roundw
                case rel => exact ⟨ln + 1, _, rfl, by omega, K, by omega, hG2⟩
                case measure => simp [intOf]; omega
            · obtain rfl : ln = hi + 1 := by omega
              have hG2 := Lib.hid (show acc2 ++ EH (hh + 1) (mm + 1 - (hh + 1)).toNat = EL by
                have h1 := hG.out
                rw [show (hi + 1 - (hi + 1)).toNat = 0 by omega, hL0.out, List.nil_append] at h1
                exact h1)
              have e9 : IntKind.i64.wrap (hh + 1) = hh + 1 := IntWalk.i64_in _ (by omega)
              clear hG
              go_wp2
              go_roundw
              case rel => exact ⟨hh + 1, _, rfl, by omega, K, by omega, hG2⟩
              case measure => simp [intOf]; omega
        · obtain rfl : hh = mm + 1 := by omega
          obtain ⟨_, hoo, _, hbel, _, _⟩ := hKg.out _ _ _ _ _ _ K
          obtain ⟨A5, c5, rfl⟩ := own_shape hoo
          have hEE : acc = EL := by
            have h1 := hG.out
            rw [show (mm + 1 - (mm + 1)).toNat = 0 by omega, hH0.out, List.append_nil] at h1
            exact h1
          have hrs : RSp wx A5 acc.length acc := RN.of_own spE_len hoo rfl (by omega)
          have hrs2 : RSp wx A5 acc.length EL := by rw [← hEE]; exact hrs
          have hcp := own_cap hoo rfl
          have hnl : acc.length ≤ 1000 := by omega
          clear hG hEE K hoo hrs
          go_wp2
          go_ret2
          exact ⟨_, _, _, rfl, hrs2, hnl, hcp.imp_right (fun ⟨b, h1, h2⟩ => ⟨⟨b, h1⟩, h2⟩), hbel⟩
end Go.Proofs.YtdbfcneeiiialaaGreatDoor

/- api.Start: ==, slices.Equal, Index, Contains, Clone, SortFunc. Printed by wip/genset.py. -/
namespace Go.Proofs.YtdbfcneeiiialaaGreatDoor
open Go.RowKit Go.Shelf Go.Lib Go.Sort
set_option linter.unusedVariables false

theorem str_neS {a b : ByteArray} (h : a ≠ b) : (a.toList == b.toList) = false := by
  rw [beq_eq_false_iff_ne, ByteArray.toList_eq, ByteArray.toList_eq]
  intro e
  exact h (by cases a; cases b; congr 1; exact Array.toList_inj.mp e)
instance : DecidableEq Sp := fun a b => decidable_of_iff (a.who = b.who ∧ a.heat = b.heat ∧ a.lane = b.lane) ⟨fun h => by
  obtain ⟨x0, x1, x2⟩ := a
  obtain ⟨y0, y1, y2⟩ := b
  obtain ⟨rfl, rfl, rfl⟩ := h
  rfl, fun h => by subst h; exact ⟨rfl, rfl, rfl⟩⟩
set_option maxHeartbeats 3200000 in
set_option maxRecDepth 100000 in
theorem equalSp_c (A1 A2 : Option Addr) (n c m d : Nat) (l1 l2 : List Sp) (w : World) (h1 : RSp w A1 n l1) (h2 : RSp w A2 m l2) :
    Calls Tryz.prog 54 #[.slice A1 n c, .slice A2 m d] w fun e w' => e = .returned (.bool (decide (l1 = l2))) ∧ ∃ q, w' = w.drewN q := by
  have b1 := h1.bd
  have b2 := h2.bd
  by_cases hnm : n = m
  rotate_left
  · have hd : decide (l1 = l2) = false := by simp; rintro rfl; have := h1.len; have := h2.len; omega
    have hne : ((n : Int) != (m : Int)) = true := by rw [bne_iff_ne]; omega
    rw [hd]
    clear hd
    go_enter Tryz.func54, Tryz.ntmps54
    go_wp2
    go_ret
    exact ⟨rfl, 0, rfl⟩
  subst hnm
  have hL1 := Lib.hid h1.len
  have hL2 := Lib.hid h2.len
  go_enter Tryz.func54, Tryz.ntmps54
  go_wp2
  go_loopw [13] (fun i wr => ∃ k q : Nat, k ≤ n ∧ i = .int .i64 k ∧ wr = w.drewN q ∧ Hid (∀ j, j < k → l1[j]? = l2[j]?)) (fun i _ => n - (intOf i).toNat)
  case atStart => exact ⟨0, 0, Nat.zero_le _, rfl, rfl, Lib.hid (fun j h => absurd h (by omega))⟩
  case round =>
    obtain ⟨k, q0, hk, rfl, rfl, hF⟩ := hrel
    by_cases hlt : k < n
    · obtain ⟨b, off, x, rfl, hbl, hx, c0, c1, c2⟩ := RSp_at3 h1 hlt
      obtain ⟨b', off', y, rfl, hbl', hy, e0, e1, e2⟩ := RSp_at3 h2 hlt
      have hx' := Lib.hid hx
      have hy' := Lib.hid hy
      clear hx hy
      by_cases hxy : x = y
      · subst hxy
        obtain ⟨x0, x1, x2⟩ := x
        dsimp only at *
        go_wp2
        go_quiet (fail)
        go_wp2
        go_roundw
        case rel => exact ⟨k + 1, _, by omega, by go_num, rfl, Lib.hid (fun j hj => by
          by_cases hjk : j = k
          · subst hjk; rw [hx'.out, hy'.out]
          · exact hF.out j (by omega))⟩
        case measure => simp [intOf]; omega
      · obtain ⟨x0, x1, x2⟩ := x
        obtain ⟨y0, y1, y2⟩ := y
        dsimp only at c0 c1 c2 e0 e1 e2
        have hcases : ((x0.toList == y0.toList) = false) ∨ (x0 = y0 ∧ (((x1 == y1) = false) ∨ (x1 = y1 ∧ ((x2 == y2) = false)))) := by
          by_cases q0 : x0 = y0
          · refine .inr ⟨q0, ?_⟩
            by_cases q1 : x1 = y1
            · refine .inr ⟨q1, ?_⟩
              exact beq_eq_false_iff_ne.2 (fun q2 => hxy (by rw [q0, q1, q2]))
            · exact .inl (beq_eq_false_iff_ne.2 q1)
          · exact .inl (str_neS q0)
        have hfin : Hid (decide (l1 = l2) = false) := Lib.hid (by
          simp only [decide_eq_false_iff_not]
          rintro rfl
          rw [hx'.out] at hy'
          exact hxy (Option.some.inj hy'.out))
        clear hxy
        rcases hcases with h0 | ⟨rfl, h1 | ⟨rfl, h2⟩⟩
        all_goals
          go_wp2
          go_quiet (fail)
          go_wp2
          go_ret
          exact ⟨ret_b (by rw [hfin.out]), _, by rw [World.drewN_drewN]⟩
    · have hfin : Hid (decide (l1 = l2) = true) := Lib.hid (by
        simp only [decide_eq_true_eq]
        apply List.ext_getElem?; intro j
        by_cases hj : j < n
        · exact hF.out j (by omega)
        · rw [List.getElem?_eq_none (by rw [hL1.out]; omega), List.getElem?_eq_none (by rw [hL2.out]; omega)])
      go_wp2
      go_ret
      exact ⟨ret_b (by rw [hfin.out]), _, rfl⟩
def firstSp (p : Sp) : List Sp → Int → Int
  | [], _ => -1
  | x :: r, k => if p = x then k else firstSp p r (k + 1)
theorem firstSp_at {p : Sp} {l : List Sp} {j : Nat} {x : Sp} (k : Int) (h : l[j]? = some x) : firstSp p (l.drop j) k = if p = x then k else firstSp p (l.drop (j + 1)) (k + 1) := by rw [drop_at h]; rfl
theorem firstSp_mem (p : Sp) : ∀ (l : List Sp) (k : Int), 0 ≤ k → decide (0 ≤ firstSp p l k) = decide (p ∈ l)
  | [], _, _ => rfl
  | x :: r, k, h => by
    unfold firstSp
    by_cases hx : p = x
    · rw [if_pos hx]; simp [h, hx]
    · rw [if_neg hx, firstSp_mem p r _ (by omega), decide_eq_decide, List.mem_cons]; simp [hx]
set_option maxHeartbeats 3200000 in
set_option maxRecDepth 100000 in
theorem indexSp_c (A : Option Addr) (n c : Nat) (l : List Sp) (p : Sp) (w : World) (h : RSp w A n l) (hn : n ≤ 1000) :
    Calls Tryz.prog 204 #[.slice A n c, .agg #[.string p.who, .int .i64 p.heat, .int .i64 p.lane]] w fun e w' => e = .returned (.int .i64 (firstSp p l 0)) ∧ Below w.heap.size w w' := by
  have hl := Lib.hid h.len
  have hb0 := heap_alloc_new w (.cells #[.string p.who, .int .i64 p.heat, .int .i64 p.lane] 111)
  have hB0 := below_new w (.cells #[.string p.who, .int .i64 p.heat, .int .i64 p.lane] 111)
  have h0 := h.alloc (.cells #[.string p.who, .int .i64 p.heat, .int .i64 p.lane] 111)
  generalize hE : firstSp p l 0 = E
  have hE' := Lib.hid hE
  clear hE h
  go_enter Tryz.func204, Tryz.ntmps204
  go_wp2_with fail
  generalize hW : w.alloc (.cells #[.string p.who, .int .i64 p.heat, .int .i64 p.lane] 111) = w1 at *
  go_loopw [8] (fun i wr => ∃ k q : Nat, k ≤ n ∧ i = .int .i64 k ∧ wr = w1.drewN q ∧ Hid (firstSp p (l.drop k) k = E)) (fun i _ => n - (intOf i).toNat)
  case atStart => exact ⟨0, 0, Nat.zero_le _, rfl, rfl, Lib.hid hE'.out⟩
  case round =>
    obtain ⟨k, q0, hk, rfl, rfl, hF⟩ := hrel
    by_cases hlt : k < n
    · obtain ⟨b, off, x, rfl, hbl, hx, c0, c1, c2⟩ := RSp_at3 h0 hlt
      have e0 := (blk_facts hb0).1 0
      have e1 := (blk_facts hb0).1 1
      have e2 := (blk_facts hb0).1 2
      have lb := lt_of_heap hb0
      have hT := Lib.hid (firstSp_at (p := p) (k : Int) hx)
      clear hx
      obtain ⟨x0, x1, x2⟩ := p
      by_cases hpx : (⟨x0, x1, x2⟩ : Sp) = x
      · subst hpx
        dsimp only at *
        go_wp2
        go_quiet (fail)
        go_wp2
        go_ret
        exact ⟨ret_i (by rw [← hF.out, hT.out]; simp), below_drewN (below_drewN hB0 _) _⟩
      · obtain ⟨y0, y1, y2⟩ := x
        dsimp only at *
        have hcases : ((x0.toList == y0.toList) = false) ∨ (x0 = y0 ∧ (((x1 == y1) = false) ∨ (x1 = y1 ∧ ((x2 == y2) = false)))) := by
          by_cases q0 : x0 = y0
          · refine .inr ⟨q0, ?_⟩
            by_cases q1 : x1 = y1
            · refine .inr ⟨q1, ?_⟩
              exact beq_eq_false_iff_ne.2 (fun q2 => hpx (by rw [q0, q1, q2]))
            · exact .inl (beq_eq_false_iff_ne.2 q1)
          · exact .inl (str_neS q0)
        have hpx' := Lib.hid hpx
        clear hpx
        rcases hcases with h0 | ⟨rfl, h1 | ⟨rfl, h2⟩⟩
        all_goals
          go_wp2
          go_quiet (fail)
          go_wp2
          go_roundw
          case rel => exact ⟨k + 1, _, by omega, by go_num, rfl, Lib.hid (by rw [← hF.out, hT.out, if_neg hpx'.out]; rfl)⟩
          case measure => simp [intOf]; omega
    · obtain rfl : k = n := by omega
      go_wp2
      go_ret
      exact ⟨ret_i (by rw [← hF.out, drop_end (by rw [hl.out]; exact Nat.le_refl _)]; rfl), below_drewN hB0 _⟩
theorem containsSp_c (A : Option Addr) (n c : Nat) (l : List Sp) (p : Sp) (w : World) (h : RSp w A n l) (hn : n ≤ 1000) :
    Calls Tryz.prog 126 #[.slice A n c, .agg #[.string p.who, .int .i64 p.heat, .int .i64 p.lane]] w fun e w' => e = .returned (.bool (decide (p ∈ l))) ∧ Below w.heap.size w w' := by
  have hI := Lib.hid (fun W h => indexSp_c A n c l p W h hn)
  have hF := Lib.hid (firstSp_mem p l 0 (Int.le_refl _))
  generalize firstSp p l 0 = v at *
  have hb0 := heap_alloc_new w (.cells #[.string p.who, .int .i64 p.heat, .int .i64 p.lane] 111)
  have y := (blk_facts hb0).1
  go_enter Tryz.func126, Tryz.ntmps126
  go_wp2_with fail
  refine (hI.out _ (h.alloc _)).mono ?_; rintro e w1 ⟨rfl, B1⟩
  have B := below_box B1
  go_wp2
  go_ret
  exact ⟨by rw [← hF.out]; rfl, B⟩
theorem spLtF_iff (x y : Sp) : ltOf spCf x y = true ↔ x.heat < y.heat ∨ (x.heat = y.heat ∧ x.lane < y.lane) := by
  have e : ltOf spCf x y = decide (spCf x y < 0) := rfl
  rw [e, decide_eq_true_iff, spCf_val]
  unfold Lib.compareInt
  split <;> (repeat' split) <;> omega
theorem spLtF_no (x y : Sp) : ltOf spCf x y = false ↔ ¬ (x.heat < y.heat ∨ (x.heat = y.heat ∧ x.lane < y.lane)) := by
  rw [← spLtF_iff, Bool.not_eq_true]
theorem spFWO : SWO (ltOf spCf) := by
  refine ⟨fun x => ?_, fun x y z => ?_, fun x y z => ?_⟩
  · rw [spLtF_no]; omega
  · rw [spLtF_iff, spLtF_iff, spLtF_iff]; omega
  · rw [spLtF_no, spLtF_no, spLtF_no]; omega
/-- sorted as they are -/
def SpSortF (l l' : List Sp) : Prop := l'.Perm l ∧ l'.Pairwise fun x y => ltOf spCf y x = false
theorem spInsF0_c (p : Option Addr) (cap : Nat) (fv : Value) (w : World) :
    Calls Tryz.prog 304 #[.slice p 0 cap, .int .i64 0, .int .i64 0, fv] w fun e w' => e = .returned (.tuple #[]) ∧ w' = w := by
  go_enter Tryz.func304, Tryz.ntmps304
  go_wp2
  refine wp_loop_rounds 1 ?_
  rw [rounds_succ]
  go_wp2
  go_end0
  exact ⟨rfl, rfl⟩
set_option maxHeartbeats 1600000 in
set_option maxRecDepth 100000 in
theorem spFncF0_c (p : Option Addr) (cap : Nat) (fv : Value) (w : World) :
    Calls Tryz.prog 207 #[.slice p 0 cap, fv] w fun e w' => e = .returned (.tuple #[]) ∧ w' = w := by
  have hS : ∀ lim : Int, Calls Tryz.prog 268 #[.slice p 0 cap, .int .i64 0, .int .i64 0, .int .i64 lim, fv] w fun e w' => e = .returned (.tuple #[]) ∧ w' = w := by
    intro lim
    have hI := Lib.hid (spInsF0_c p cap fv w)
    go_enter Tryz.func268, Tryz.ntmps268
    go_wp2
    refine wp_loop_rounds 1 ?_
    rw [rounds_succ]
    go_wp2_with fail
    refine hI.out.mono ?_; rintro e w' ⟨rfl, rfl⟩
    go_wp2
    (try simp only [Exit.inBlock, Exit.then]); refine bodyPost_ret (results_none rfl _ _ _) rfl ?_
    exact ⟨rfl, rfl⟩
  have hBi := Lib.hid (fun W => Tryz.bits_Len 0 W (by omega) (by omega))
  go_enter Tryz.func207, Tryz.ntmps207
  go_wp2_with fail
  refine (hBi.out _).mono ?_; rintro e w' ⟨rfl, rfl⟩
  go_wp2_with fail
  refine (hS _).mono ?_; rintro e w' ⟨rfl, rfl⟩
  go_wp2
  go_end0
  exact ⟨rfl, rfl⟩
theorem sortFSp_c (F : Nat) (eg : ∀ args w, (callFunc F args).run Tryz.prog w = .ok (.enter F args) w) (hF : ∀ (x y : Sp) (W : World), Calls Tryz.prog F #[.agg (spE x).toArray, .agg (spE y).toArray] W fun e w' => e = .returned (.int .i64 (spCf x y)) ∧ Below W.heap.size W w' ∧ W.drawn ≤ w'.drawn) (l : List Sp) (w : World) (base n : Nat) (u : Value) (hown : w.ownsRow base 111 3 u n (l.flatMap spE)) (hn : n ≤ 1000) :
    Calls Tryz.prog 207 #[u, .func (.func F) #[] #[]] w fun e w' => e = .returned (.tuple #[]) ∧ ∃ l', w'.ownsRow base 111 3 u n (l'.flatMap spE) ∧ SpSortF l l' ∧ w.grownBy w' u.ownBlock := by
  obtain ⟨A, c, rfl⟩ := own_shape hown
  have hlen := own_len spE_len (by decide) hown
  rcases Nat.eq_zero_or_pos n with h0 | hp
  · subst h0
    have hl : l = [] := List.eq_nil_of_length_eq_zero hlen
    subst hl
    refine (spFncF0_c A c _ w).mono ?_
    rintro e w' ⟨rfl, rfl⟩
    exact ⟨rfl, [], hown, ⟨List.Perm.refl _, List.Pairwise.nil⟩, grown_refl _ _⟩
  · obtain ⟨gb, rfl, hgb⟩ := own_someN hown hp
    have hH := holdsK_own spE 3 spE_len (by omega) hown
    have hsz : l.toArray.size = n := by simpa using hlen
    have hC : CmpLays Tryz.prog F #[] spE 3 spCf gb 0 l.toArray.size w := fun m os dk hdk x y => (hF x y _).mono fun _ _ ⟨he, hB, hD⟩ => ⟨he, grow_of hB hD⟩
    have h := AnyQ.slices_SortFunc Tryz.laysQT 3 Tryz.isAgg111 Tryz.sizeOf111 spE spE_len (fun x v hv => by simp [spE] at hv; rcases hv with rfl | rfl | rfl <;> rfl) spCf spFWO F #[] gb 0 c l.toArray w eg hC hH (hown.lt gb rfl).2 (by rw [hsz]; omega)
    rw [hsz] at h
    refine h.mono ?_
    rintro e w' ⟨rfl, d', m, os, hP, hS, rfl⟩
    obtain ⟨p1, p2, p3⟩ := hP
    have hz : d'.toList.length = n := by rw [Array.length_toList, p1, hsz]
    obtain ⟨h1, h2⟩ := own_sortedK spE 3 spE_len (by omega) hown (l' := d'.toList) hz m os
    rw [Array.toArray_toList] at h1 h2
    refine ⟨rfl, d'.toList, h1, ⟨?_, ?_⟩, h2⟩
    · have e1 : d'.extract 0 n = d' := by rw [← hsz, ← p1]; exact Array.extract_size
      have e2 : l.toArray.extract 0 n = l.toArray := by rw [← hsz]; exact Array.extract_size
      rw [e1, e2] at p3
      exact p3
    · rw [List.pairwise_iff_getElem]
      intro i j hi hj hij
      have hj' : j < d'.size := by simpa using hj
      have h9 := hS i j (Nat.zero_le _) hij (by rw [p1, hsz] at hj'; exact hj')
      rw [getElem!_pos d' i (by omega), getElem!_pos d' j hj'] at h9
      exact h9
end Go.Proofs.YtdbfcneeiiialaaGreatDoor
