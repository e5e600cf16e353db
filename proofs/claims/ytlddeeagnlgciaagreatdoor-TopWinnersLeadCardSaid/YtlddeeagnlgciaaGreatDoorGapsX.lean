import Derived.Test.YtlddeeagnlgciaaGreatDoorSortAll
import Derived.Test.YtlddeeagnlgciaaGreatDoorFastQ
import Derived.Deep.RegionHeld3
import Derived.Test.YtlddeeagnlgciaaGreatDoorWhereA
import Derived.Test.YtlddeeagnlgciaaGreatDoorTrnM
import Derived.Test.YtlddeeagnlgciaaGreatDoorP17
/- race.Gaps of a right field: a permutation of the gaps, ascending. -/
namespace Go.Proofs.YtlddeeagnlgciaaGreatDoor
open Go.RowKit
set_option linter.unusedVariables false

def gapV (E : Nat) (x : Sw) : Int := x.sp.getD (E - 1) 0
def minG (E : Nat) : List Sw → Int → Int
  | [], f => f
  | x :: r, f => minG E r (min f (gapV E x))
def firstG (E : Nat) (l : List Sw) : Int := minG E l 360000
theorem minG_at {E : Nat} {l : List Sw} {k : Nat} {x : Sw} (f : Int) (h : l[k]? = some x) : minG E (l.drop k) f = minG E (l.drop (k + 1)) (min f (gapV E x)) := by rw [drop_at h]; rfl
def mkB (who : ByteArray) (e v : Int) : GpB := if h : -1000000 ≤ v ∧ v ≤ 1000000 then ⟨⟨who, e, v⟩, h⟩ else default
theorem mkB_val {who : ByteArray} {e v : Int} (h : -1000000 ≤ v ∧ v ≤ 1000000) : (mkB who e v).1 = ⟨who, e, v⟩ := by unfold mkB; rw [dif_pos h]
def gapLs (E : Nat) (F : Int) (l : List Sw) : List Gp := l.map fun x => ⟨x.who, (E : Int), gapV E x - F⟩
theorem gapLs_at {E : Nat} {F : Int} {l : List Sw} {k : Nat} {x : Sw} (h : l[k]? = some x) : gapLs E F (l.drop k) = ⟨x.who, (E : Int), gapV E x - F⟩ :: gapLs E F (l.drop (k + 1)) := by rw [drop_at h]; rfl
theorem snoc_gp {w : World} {base k : Nat} {out : Value} {acc : List GpB} {who : ByteArray} {e v : Int} (hv : -1000000 ≤ v ∧ v ≤ 1000000) (h : w.ownsRow base 51 3 out k (acc.flatMap gpB ++ [.string who, .int .i64 e, .int .i64 v])) : w.ownsRow base 51 3 out k ((acc ++ [mkB who e v]).flatMap gpB) := by
  rw [← flat_snoc]
  have : gpB (mkB who e v) = [.string who, .int .i64 e, .int .i64 v] := by unfold gpB; rw [mkB_val hv]; rfl
  rw [this]; exact h
theorem gpB_flat (l : List GpB) : l.flatMap gpB = (l.map Subtype.val).flatMap gpE := by
  induction l with
  | nil => rfl
  | cons x r ih => rw [List.flatMap_cons, List.map_cons, List.flatMap_cons, ih]; rfl
set_option maxHeartbeats 3200000 in
set_option maxRecDepth 100000 in
theorem gaps_c (r : Race) (A : Option Addr) (n c E M : Nat) (l : List Sw) (w : World) (h : RSw w A n l) (h0 : fieldErr r l = 0) (hn1 : 1 ≤ n) (hn : n ≤ 19) (hM : lenV r = M) (hE1 : 1 ≤ E) (hE2 : E ≤ M) (hx1 : ∀ x ∈ l, x.n = M) (hbx : ∀ x ∈ l, ∀ y ∈ x.sp, 0 ≤ y ∧ y ≤ 360000) :
    Calls Tryz.prog 14 #[r.val, .slice A n c, .int .i64 E] w fun e w' => ∃ (A' : Option Addr) (c' : Nat) (g : List Gp), e = .returned (.tuple #[.slice A' n c', .int .i64 0]) ∧ RGp w' A' n g ∧ g.Perm (gapLs E (firstG E l) l) ∧ (∀ (i j : Nat) (x y : Gp), i < j → g[i]? = some x → g[j]? = some y → x.behind ≤ y.behind) ∧ Below w.heap.size w w' := by
  have hF := Lib.hid (fun W h => checkField_c r A n c l W h)
  rw [h0] at hF
  obtain ⟨hr, _, _⟩ := fieldErr_ok h0
  have hL := Lib.hid (fun W => Lengths_ok r W hr)
  obtain ⟨hm1, hm2⟩ := lenV_bd hr
  rw [hM] at hL hm1 hm2
  have hl := Lib.hid h.len
  have hx1' := Lib.hid hx1
  have hbx' := Lib.hid hbx
  clear h0 hr hM hx1 hbx
  obtain ⟨key, metres, stroke, course, legs, sex, young, old⟩ := r
  dsimp only [Race.val, Race.cells] at *
  have hb0 := heap_alloc_new w (.cells #[.string key, .int .i64 metres, .int .i64 stroke, .int .i64 course, .int .i64 legs, .int .i64 sex, .int .i64 young, .int .i64 old] 27)
  have zz := (blk_facts hb0).1
  have hd : decide ((1 : Int) ≤ (E : Int) ∧ (E : Int) ≤ (M : Int)) = true := decide_eq_true (by omega)
  generalize hFv : firstG E l = F
  have hFv' := Lib.hid hFv
  clear hFv
  have e2 : 0 ≤ (E : Int) - 1 := by omega
  have e2' : (1 : Int) ≤ (E : Int) := by omega
  have e1 : IntKind.i64.wrap ((E : Int) - 1) = (E : Int) - 1 := IntWalk.i64_in _ (by omega)
  have e3 : ((E : Int) - 1).toNat = E - 1 := by omega
  have e4 : (E : Int) - 1 < M := by omega
  go_enter Tryz.func14, Tryz.ntmps14
  go_wp2_with fail
  refine (hF.out _ (h.alloc _)).mono ?_; rintro e w1 ⟨rfl, B1⟩
  have hb1 := blk_below hb0 B1
  have hB1 := below_box B1
  have z := (blk_facts hb1).1
  clear hb0 B1 zz
  go_wp2_with fail
  refine (hL.out _).mono ?_; rintro e w2 ⟨rfl, B2⟩
  have hB2 := below_next hB1 B2
  clear hb1 hB1 z B2
  go_wp2_with fail
  refine (within_c _ _ _ _).mono ?_; rintro e w' ⟨rfl, rfl⟩
  rw [hd]
  clear hd
  go_wp2_with fail
  go_loopw [11, 34] (fun u i wr => ∃ (k : Nat) (f : Int), k ≤ n ∧ i = .int .i64 k ∧ u = .int .i64 f ∧ 0 ≤ f ∧ f ≤ 360000 ∧ Below w.heap.size w wr ∧ Hid (minG E (l.drop k) f = F)) (fun _ i _ => n - (intOf i).toNat)
  case atStart => exact ⟨0, 360000, Nat.zero_le _, rfl, rfl, by decide, by decide, hB2, Lib.hid hFv'.out⟩
  case round =>
    clear hB2
    obtain ⟨k, f, hk, rfl, rfl, hf0, hf1, hB, hFF⟩ := hrel
    by_cases hlt : k < n
    · obtain ⟨b, off, x, hA, hbl, hx, c0, c1, hI⟩ := (h.below hB).at2 hlt
      subst hA
      have hxm := List.mem_of_getElem? hx
      have hMx := hx1'.out x hxm
      have hbd := hbx'.out x hxm
      have hT := Lib.hid (minG_at (E := E) f hx)
      obtain ⟨bX, oX, tX, hXA, lX, htX, cX⟩ := hI.at_ (k := E - 1) (by omega)
      have htg : gapV E x = tX := getD_of htX
      have htb := hbd _ (List.mem_of_getElem? htX)
      rw [htg] at hT
      obtain ⟨who, xA, xn, xc, xs⟩ := x
      dsimp only at *
      subst hXA
      subst hMx
      clear hx hxm hbd hI htX htg
      have hx5 := heap_alloc_new wr (.cells #[.string who, .slice (some ⟨bX, oX, none⟩) xn xc] 34)
      have cX5 : (wr.alloc (.cells #[.string who, .slice (some ⟨bX, oX, none⟩) xn xc] 34)).cell? ⟨bX, oX + (E - 1), none⟩ = some (.int .i64 tX) := (World.cell?_alloc_lt wr _ ⟨bX, oX + (E - 1), none⟩ (by show bX < wr.heap.size; omega)).trans cX
      have z0 := (blk_facts hx5).1 0
      have z1 := (blk_facts hx5).1 1
      have hB5 := hB.alloc hB.size (.cells #[.string who, .slice (some ⟨bX, oX, none⟩) xn xc] 34)
      clear hB hx5
      go_wp2_with fail
      go_roundw
      case rel => exact ⟨k + 1, min f tX, by omega, by go_num, rfl, by omega, by omega, hB5, Lib.hid (by rw [← hFF.out, hT.out])⟩
      case measure => simp [intOf]; omega
    · obtain rfl : k = n := by omega
      have hFf := hFF.out
      rw [drop_end (by rw [hl.out]; exact Nat.le_refl _)] at hFf
      have hFf2 : f = F := hFf
      subst hFf2
      clear hFF hFf hlt
      go_wp2_with fail
      go_loopw [14, 49] (fun out i wr => ∃ (j : Nat) (acc : List GpB), j ≤ k ∧ i = .int .i64 j ∧ Hid (acc.length = j) ∧ wr.ownsRow w.heap.size 51 3 out j (acc.flatMap gpB) ∧ Below w.heap.size w wr ∧ Hid (acc.map Subtype.val ++ gapLs E f (l.drop j) = gapLs E f l)) (fun _ i _ => k - (intOf i).toNat)
      case atStart => exact ⟨0, [], Nat.zero_le _, rfl, Lib.hid rfl, World.ownsRow_nil _ _ _ _, hB, Lib.hid rfl⟩
      case round =>
        clear hB
        obtain ⟨j, acc, hj, rfl, hla, hown, hB, hG⟩ := hrel
        by_cases hlt : j < k
        · obtain ⟨b, off, x, hA, hbl, hx, c0, c1, hI⟩ := (h.below hB).at2 hlt
          subst hA
          have hxm := List.mem_of_getElem? hx
          have hMx := hx1'.out x hxm
          have hbd := hbx'.out x hxm
          have hT := Lib.hid (gapLs_at (E := E) (F := f) hx)
          obtain ⟨bX, oX, tX, hXA, lX0, htX, cX0⟩ := (h.2 x hxm).at_ (k := E - 1) (by omega)
          have cX := (hB.cell (p := ⟨bX, oX + (E - 1), none⟩) lX0).trans cX0
          have lX : bX < wr.heap.size := Nat.lt_of_lt_of_le lX0 hB.size
          have htg : gapV E x = tX := getD_of htX
          have htb := hbd _ (List.mem_of_getElem? htX)
          rw [htg] at hT
          obtain ⟨who, xA, xn, xc, xs⟩ := x
          dsimp only at *
          subst hXA
          subst hMx
          clear hx hxm hbd hI htX htg
          have hz := hB.size
          obtain ⟨AO, cO, rfl⟩ := own_shape hown
          have hneS := hown.lt
          have hwr : IntKind.i64.wrap (tX - f) = tX - f := IntWalk.i64_in _ (by omega)
          have hown5 := hown.alloc (.cells #[.string who, .slice (some ⟨bX, oX, none⟩) xn xc] 34)
          have hB5 := hB.alloc hz (.cells #[.string who, .slice (some ⟨bX, oX, none⟩) xn xc] 34)
          have hx5 := heap_alloc_new wr (.cells #[.string who, .slice (some ⟨bX, oX, none⟩) xn xc] 34)
          have cX5 : (wr.alloc (.cells #[.string who, .slice (some ⟨bX, oX, none⟩) xn xc] 34)).cell? ⟨bX, oX + (E - 1), none⟩ = some (.int .i64 tX) := (World.cell?_alloc_lt wr _ ⟨bX, oX + (E - 1), none⟩ (by show bX < wr.heap.size; omega)).trans cX
          have z0 := (blk_facts hx5).1 0
          have z1 := (blk_facts hx5).1 1
          have lx5 := lt_of_heap hx5
          have hz5 := hB5.size
          go_wp2_with fail
          clear c0 c1 hown hB
          generalize hW : wr.alloc (.cells #[.string who, .slice (some ⟨bX, oX, none⟩) xn xc] 34) = w5 at *
          generalize wr.heap.size = b7 at *
          clear hW hx5
          obtain ⟨i0, hi0, hz0, hz1, hz2⟩ := info_parts info_gap
          go_region_held3 (fun w' => w'.cell? ⟨b7, 0, none⟩ = some (.string who) ∧ w'.cell? ⟨b7, 1, none⟩ = some (.slice (some ⟨bX, oX, none⟩) xn xc) ∧ w'.cell? ⟨bX, oX + (E - 1), none⟩ = some (.int .i64 tX))
            (first | go_keep | with_reducible exact ⟨q0, q1, qX⟩)
            (first
              | (refine step_append_lies _ (by rfl) _ _ _ (by rfl) w.heap.size 51 i0 _ 3 32 Tryz.underlying41 hi0 hz0 hz1 hz2 rfl (by omega) _ j (acc.flatMap gpB) (by rfl) (hown5.drew.alloc _) ⟨w5.heap.size, 0, none⟩ 1 1 [.string who, .int .i64 E, .int .i64 (tX - f)] (by rfl) (by rfl) (World.news_of_block (cs := #[.string who, .int .i64 E, .int .i64 (tX - f)]) (t := 51) (fr := (0, 0)) (heap_alloc_new w5.drew _)) (by simp [Value.oneCell']) (by omega) (by unfold maxLen; omega) (by omega) (by simp; omega) (w5.heap.size + 1) (by simp) ?_; intro gg cap w7 hown7 hgrow hat hlt7; have q0 := (hgrow.cell_far ⟨b7, 0, none⟩ (by simp; omega) (fun e => by have := hneS b7 e.symm; omega)).trans ((World.cell?_alloc_lt w5 _ ⟨b7, 0, none⟩ (by show b7 < w5.heap.size; omega)).trans z0); have q1 := (hgrow.cell_far ⟨b7, 1, none⟩ (by simp; omega) (fun e => by have := hneS b7 e.symm; omega)).trans ((World.cell?_alloc_lt w5 _ ⟨b7, 1, none⟩ (by show b7 < w5.heap.size; omega)).trans z1); have qX := (hgrow.cell_far ⟨bX, oX + (E - 1), none⟩ (by simp; omega) (fun e => by have := hneS bX e.symm; omega)).trans ((World.cell?_alloc_lt w5 _ ⟨bX, oX + (E - 1), none⟩ (by show bX < w5.heap.size; omega)).trans cX5)))
          have hB7 := below_own ((below_drewN hB5 1).alloc (by simpa using hz5) _) (hown5.drew.alloc _) hgrow (by simp; omega) (Nat.le_refl _)
          have H := Lib.hid (And.intro (snoc_gp (by omega) hown7) hB7)
          clear hown7 hgrow hat hlt7 q0 q1 qX cX5 z0 z1 hi0 hz0 hz1 hz2 hown5 hB5 hwr hneS hB7
          go_wp2
          go_roundw
          case rel => exact ⟨j + 1, _, by omega, by go_num, Lib.hid (by rw [List.length_append, hla.out]; rfl), H.out.1, H.out.2, Lib.hid (by rw [← hG.out, hT.out, List.map_append, List.map_cons, List.map_nil, mkB_val (by omega)]; simp)⟩
          case measure => simp [intOf]; omega
        · obtain rfl : j = k := by omega
          rcases hown.2 with ⟨_, h9⟩ | ⟨gb, cap, cur, hv, _, hgb, _, _, _, _⟩
          · omega
          · subst hv
            have hGe := hG.out
            rw [drop_end (by rw [hl.out]; exact Nat.le_refl _)] at hGe
            have hGe2 : acc.map Subtype.val = gapLs E f l := by simpa [gapLs] using hGe
            go_wp2_with fail
            refine (gapSort_c _ _ _ _ acc _ hown hn).mono ?_; rintro e w8 ⟨rfl, l', hp, hs', hown8, hg8⟩
            have hB8 := below_own hB hown hg8 hB.size (Nat.le_refl _)
            go_wp2
            go_ret2
            refine ⟨_, _, l'.map Subtype.val, rfl, ?_, ?_, ?_, hB8⟩
            · rw [gpB_flat] at hown8
              exact RN.of_own gpE_len hown8 (by rw [List.length_map, hp.length_eq]; exact hla.out) (by omega)
            · rw [← hGe2]; exact hp.map _
            · intro i j x y hij hx hy
              rw [List.getElem?_map] at hx hy
              obtain ⟨x', hx', rfl⟩ := Option.map_eq_some_iff.1 hx
              obtain ⟨y', hy', rfl⟩ := Option.map_eq_some_iff.1 hy
              exact hs' i j x' y' hij hx' hy'
end Go.Proofs.YtlddeeagnlgciaaGreatDoor

/- Gaps and GapsOf exactly: the insertion sort of the gaps; with errors. Printed by wip/genG.py. -/
namespace Go.Proofs.YtlddeeagnlgciaaGreatDoor
open Go.RowKit Go.Shelf Go.Lib Go.Sort
set_option linter.unusedVariables false

instance : Inhabited Gp := ⟨⟨⟨#[]⟩, 0, 0⟩⟩
def gapCf0 (x y : Gp) : Int := x.behind - y.behind
def cmpS (a b : ByteArray) : Int := Lib.compareBytes a.data.toList b.data.toList
def byGapCf0 (x y : Gp) : Int := orV [cmpV x.behind y.behind, cmpS x.who y.who]
def byGapCf (x y : GpB) : Int := byGapCf0 x.1 y.1
def gpSortL (l : List Gp) : List Gp := insL (ltOf gapCf0) l
def bySortL (l : List Gp) : List Gp := insL (ltOf byGapCf0) l
theorem gpSort_val (l : List GpB) : (insL (ltOf gapCf) l).map Subtype.val = gpSortL (l.map Subtype.val) := (insL_map (ltOf gapCf) (ltOf gapCf0) Subtype.val (fun _ _ => rfl) l).symm
theorem bySort_val (l : List GpB) : (insL (ltOf byGapCf) l).map Subtype.val = bySortL (l.map Subtype.val) := (insL_map (ltOf byGapCf) (ltOf byGapCf0) Subtype.val (fun _ _ => rfl) l).symm
theorem bytes_more : ∀ (a b : List UInt8), (Op.bytesLess a b || (a == b)) = false → 0 < Lib.compareBytes a b
  | [], [], h => by simp at h
  | [], b :: ys, h => by simp [Op.bytesLess] at h
  | a :: xs, [], _ => by simp [Lib.compareBytes]
  | a :: xs, b :: ys, h => by
    simp only [Op.bytesLess, Bool.or_eq_false_iff, Bool.and_eq_false_iff, decide_eq_false_iff_not] at h
    obtain ⟨⟨h1, h2⟩, h3⟩ := h
    unfold Lib.compareBytes
    rw [if_neg h1]
    split
    · decide
    · rename_i h4
      have he : a = b := UInt8.toNat_inj.1 (by have h1' := h1; have h4' := h4; rw [UInt8.lt_iff_toNat_lt] at h1' h4'; omega)
      subst he
      apply bytes_more xs ys
      simp at h2 h3
      rw [h2]
      simpa using h3
theorem bytes_trans : ∀ (a b c : List UInt8), 0 < Lib.compareBytes b a → 0 < Lib.compareBytes c b → 0 < Lib.compareBytes c a
  | [], b, c, h1, h2 => by
    rcases c with _ | ⟨z, c⟩
    · rcases b with _ | ⟨y, b⟩
      · exact absurd h1 (by decide)
      · exact absurd h2 (by simp [Lib.compareBytes])
    · simp [Lib.compareBytes]
  | x :: a, [], c, h1, h2 => absurd h1 (by simp [Lib.compareBytes])
  | x :: a, y :: b, [], h1, h2 => absurd h2 (by simp [Lib.compareBytes])
  | x :: a, y :: b, z :: c, h1, h2 => by
    simp only [Lib.compareBytes, UInt8.lt_iff_toNat_lt] at *
    split at h1
    · omega
    · split at h1
      · split at h2
        · omega
        · split at h2
          · rw [if_neg (by omega), if_pos (by omega)]; decide
          · rw [if_neg (by omega), if_pos (by omega)]; decide
      · split at h2
        · omega
        · split at h2
          · rw [if_neg (by omega), if_pos (by omega)]; decide
          · rw [if_neg (by omega), if_neg (by omega)]
            exact bytes_trans a b c h1 h2
theorem cmpV_or (a b c : Int) (hc : 0 < c) : decide (a - b < 0) = decide (orV [cmpV a b, c] < 0) := by
  rw [orV_two]
  unfold cmpV
  by_cases h1 : a < b
  · rw [if_pos h1, if_pos (by decide), decide_eq_true (by omega)]; rfl
  · rw [if_neg h1]
    by_cases h2 : b < a
    · rw [if_pos h2, if_pos (by decide), decide_eq_false (by omega)]; rfl
    · rw [if_neg h2, if_neg (by decide), decide_eq_false (by omega), decide_eq_false (by omega)]
theorem leS_more {a b : ByteArray} (h : leS a b = false) : 0 < cmpS a b := by
  unfold leS at h
  rw [ByteArray.toList_eq, ByteArray.toList_eq] at h
  exact bytes_more _ _ h
theorem fieldGo_up {r : Race} : ∀ (l : List Sw) (p : Option ByteArray), fieldGo r p l = 0 → (∀ q, p = some q → ∀ x ∈ l, 0 < cmpS x.who q) ∧ l.Pairwise (fun a b => 0 < cmpS b.who a.who)
  | [], _, _ => ⟨fun _ _ x hx => by simp at hx, List.Pairwise.nil⟩
  | y :: l, p, h => by
    unfold fieldGo at h
    split at h
    · cases h
    · split at h
      · cases h
      · rename_i hle
        split at h
        · rename_i h1; exact absurd h h1
        · obtain ⟨h2, h3⟩ := fieldGo_up l (some y.who) h
          have hy : ∀ q, p = some q → 0 < cmpS y.who q := fun q hq => by
            subst hq
            exact leS_more (by simpa [leO] using hle)
          refine ⟨fun q hq x hx => ?_, List.Pairwise.cons (fun x hx => h2 _ rfl x hx) h3⟩
          rcases List.mem_cons.1 hx with rfl | hx
          · exact hy q hq
          · exact bytes_trans _ _ _ (hy q hq) (h2 _ rfl x hx)
theorem field_up {r : Race} {l : List Sw} (h : fieldErr r l = 0) : l.Pairwise (fun a b => 0 < cmpS b.who a.who) := by
  unfold fieldErr at h
  split at h
  · rename_i h1; exact absurd h h1
  · split at h
    · cases h
    · exact (fieldGo_up l none h).2
/-- the gaps of a field whose names ascend are sorted alike by both orders -/
theorem gaps_same {l : List Sw} {E : Nat} {F : Int} (h : l.Pairwise (fun a b => 0 < cmpS b.who a.who)) : gpSortL (gapLs E F l) = bySortL (gapLs E F l) := by
  unfold gpSortL bySortL
  refine insL_same _ _ _ (fun p k x y hkp hx hy => ?_)
  unfold gapLs at hx hy
  rw [List.getElem?_map] at hx hy
  obtain ⟨u, hu, rfl⟩ := Option.map_eq_some_iff.1 hx
  obtain ⟨v, hv, rfl⟩ := Option.map_eq_some_iff.1 hy
  have hc : 0 < cmpS u.who v.who := by
    have hp' := lt_of_at hu
    have hk' := lt_of_at hv
    have := (List.pairwise_iff_getElem.1 h) k p hk' hp' hkp
    rw [List.getElem?_eq_getElem hp'] at hu
    rw [List.getElem?_eq_getElem hk'] at hv
    rw [Option.some.inj hu, Option.some.inj hv] at this
    exact this
  exact cmpV_or _ _ _ hc
set_option maxHeartbeats 3200000 in
set_option maxRecDepth 100000 in
theorem gapsX_c (r : Race) (A : Option Addr) (n c E M : Nat) (l : List Sw) (w : World) (h : RSw w A n l) (h0 : fieldErr r l = 0) (hn : n ≤ 19) (hM : lenV r = M) (hE1 : 1 ≤ E) (hE2 : E ≤ M) (hx1 : ∀ x ∈ l, x.n = M) (hbx : ∀ x ∈ l, ∀ y ∈ x.sp, 0 ≤ y ∧ y ≤ 360000) :
    Calls Tryz.prog 14 #[r.val, .slice A n c, .int .i64 E] w fun e w' => ∃ (A' : Option Addr) (c' : Nat), e = .returned (.tuple #[.slice A' n c', .int .i64 0]) ∧ RGp w' A' n (gpSortL (gapLs E (firstG E l) l)) ∧ Below w.heap.size w w' := by
  have hF := Lib.hid (fun W h => checkField_c r A n c l W h)
  rw [h0] at hF
  obtain ⟨hr, _, _⟩ := fieldErr_ok h0
  have hL := Lib.hid (fun W => Lengths_ok r W hr)
  obtain ⟨hm1, hm2⟩ := lenV_bd hr
  rw [hM] at hL hm1 hm2
  have hl := Lib.hid h.len
  have hx1' := Lib.hid hx1
  have hbx' := Lib.hid hbx
  clear h0 hr hM hx1 hbx
  obtain ⟨key, metres, stroke, course, legs, sex, young, old⟩ := r
  dsimp only [Race.val, Race.cells] at *
  have hb0 := heap_alloc_new w (.cells #[.string key, .int .i64 metres, .int .i64 stroke, .int .i64 course, .int .i64 legs, .int .i64 sex, .int .i64 young, .int .i64 old] 27)
  have zz := (blk_facts hb0).1
  have hd : decide ((1 : Int) ≤ (E : Int) ∧ (E : Int) ≤ (M : Int)) = true := decide_eq_true (by omega)
  generalize hFv : firstG E l = F
  have hSV := Lib.hid (fun (a : List GpB) (h : a.map Subtype.val = gapLs E F l) => show (insL (ltOf gapCf) a).map Subtype.val = gpSortL (gapLs E F l) by rw [← h]; exact gpSort_val a)
  generalize hGV : gpSortL (gapLs E F l) = GV at *
  clear hGV
  have hFv' := Lib.hid hFv
  clear hFv
  have e2 : 0 ≤ (E : Int) - 1 := by omega
  have e2' : (1 : Int) ≤ (E : Int) := by omega
  have e1 : IntKind.i64.wrap ((E : Int) - 1) = (E : Int) - 1 := IntWalk.i64_in _ (by omega)
  have e3 : ((E : Int) - 1).toNat = E - 1 := by omega
  have e4 : (E : Int) - 1 < M := by omega
  go_enter Tryz.func14, Tryz.ntmps14
  go_wp2_with fail
  refine (hF.out _ (h.alloc _)).mono ?_; rintro e w1 ⟨rfl, B1⟩
  have hb1 := blk_below hb0 B1
  have hB1 := below_box B1
  have z := (blk_facts hb1).1
  clear hb0 B1 zz
  go_wp2_with fail
  refine (hL.out _).mono ?_; rintro e w2 ⟨rfl, B2⟩
  have hB2 := below_next hB1 B2
  clear hb1 hB1 z B2
  go_wp2_with fail
  refine (within_c _ _ _ _).mono ?_; rintro e w' ⟨rfl, rfl⟩
  rw [hd]
  clear hd
  go_wp2_with fail
  go_loopw [11, 34] (fun u i wr => ∃ (k : Nat) (f : Int), k ≤ n ∧ i = .int .i64 k ∧ u = .int .i64 f ∧ 0 ≤ f ∧ f ≤ 360000 ∧ Below w.heap.size w wr ∧ Hid (minG E (l.drop k) f = F)) (fun _ i _ => n - (intOf i).toNat)
  case atStart => exact ⟨0, 360000, Nat.zero_le _, rfl, rfl, by decide, by decide, hB2, Lib.hid hFv'.out⟩
  case round =>
    clear hB2
    obtain ⟨k, f, hk, rfl, rfl, hf0, hf1, hB, hFF⟩ := hrel
    by_cases hlt : k < n
    · obtain ⟨b, off, x, hA, hbl, hx, c0, c1, hI⟩ := (h.below hB).at2 hlt
      subst hA
      have hxm := List.mem_of_getElem? hx
      have hMx := hx1'.out x hxm
      have hbd := hbx'.out x hxm
      have hT := Lib.hid (minG_at (E := E) f hx)
      obtain ⟨bX, oX, tX, hXA, lX, htX, cX⟩ := hI.at_ (k := E - 1) (by omega)
      have htg : gapV E x = tX := getD_of htX
      have htb := hbd _ (List.mem_of_getElem? htX)
      rw [htg] at hT
      obtain ⟨who, xA, xn, xc, xs⟩ := x
      dsimp only at *
      subst hXA
      subst hMx
      clear hx hxm hbd hI htX htg
      have hx5 := heap_alloc_new wr (.cells #[.string who, .slice (some ⟨bX, oX, none⟩) xn xc] 34)
      have cX5 : (wr.alloc (.cells #[.string who, .slice (some ⟨bX, oX, none⟩) xn xc] 34)).cell? ⟨bX, oX + (E - 1), none⟩ = some (.int .i64 tX) := (World.cell?_alloc_lt wr _ ⟨bX, oX + (E - 1), none⟩ (by show bX < wr.heap.size; omega)).trans cX
      have z0 := (blk_facts hx5).1 0
      have z1 := (blk_facts hx5).1 1
      have hB5 := hB.alloc hB.size (.cells #[.string who, .slice (some ⟨bX, oX, none⟩) xn xc] 34)
      clear hB hx5
      go_wp2_with fail
      go_roundw
      case rel => exact ⟨k + 1, min f tX, by omega, by go_num, rfl, by omega, by omega, hB5, Lib.hid (by rw [← hFF.out, hT.out])⟩
      case measure => simp [intOf]; omega
    · obtain rfl : k = n := by omega
      have hFf := hFF.out
      rw [drop_end (by rw [hl.out]; exact Nat.le_refl _)] at hFf
      have hFf2 : f = F := hFf
      subst hFf2
      clear hFF hFf hlt
      go_wp2_with fail
      go_loopw [14, 49] (fun out i wr => ∃ (j : Nat) (acc : List GpB), j ≤ k ∧ i = .int .i64 j ∧ Hid (acc.length = j) ∧ wr.ownsRow w.heap.size 51 3 out j (acc.flatMap gpB) ∧ Below w.heap.size w wr ∧ Hid (acc.map Subtype.val ++ gapLs E f (l.drop j) = gapLs E f l)) (fun _ i _ => k - (intOf i).toNat)
      case atStart => exact ⟨0, [], Nat.zero_le _, rfl, Lib.hid rfl, World.ownsRow_nil _ _ _ _, hB, Lib.hid rfl⟩
      case round =>
        clear hB
        obtain ⟨j, acc, hj, rfl, hla, hown, hB, hG⟩ := hrel
        by_cases hlt : j < k
        · obtain ⟨b, off, x, hA, hbl, hx, c0, c1, hI⟩ := (h.below hB).at2 hlt
          subst hA
          have hxm := List.mem_of_getElem? hx
          have hMx := hx1'.out x hxm
          have hbd := hbx'.out x hxm
          have hT := Lib.hid (gapLs_at (E := E) (F := f) hx)
          obtain ⟨bX, oX, tX, hXA, lX0, htX, cX0⟩ := (h.2 x hxm).at_ (k := E - 1) (by omega)
          have cX := (hB.cell (p := ⟨bX, oX + (E - 1), none⟩) lX0).trans cX0
          have lX : bX < wr.heap.size := Nat.lt_of_lt_of_le lX0 hB.size
          have htg : gapV E x = tX := getD_of htX
          have htb := hbd _ (List.mem_of_getElem? htX)
          rw [htg] at hT
          obtain ⟨who, xA, xn, xc, xs⟩ := x
          dsimp only at *
          subst hXA
          subst hMx
          clear hx hxm hbd hI htX htg
          have hz := hB.size
          obtain ⟨AO, cO, rfl⟩ := own_shape hown
          have hneS := hown.lt
          have hwr : IntKind.i64.wrap (tX - f) = tX - f := IntWalk.i64_in _ (by omega)
          have hown5 := hown.alloc (.cells #[.string who, .slice (some ⟨bX, oX, none⟩) xn xc] 34)
          have hB5 := hB.alloc hz (.cells #[.string who, .slice (some ⟨bX, oX, none⟩) xn xc] 34)
          have hx5 := heap_alloc_new wr (.cells #[.string who, .slice (some ⟨bX, oX, none⟩) xn xc] 34)
          have cX5 : (wr.alloc (.cells #[.string who, .slice (some ⟨bX, oX, none⟩) xn xc] 34)).cell? ⟨bX, oX + (E - 1), none⟩ = some (.int .i64 tX) := (World.cell?_alloc_lt wr _ ⟨bX, oX + (E - 1), none⟩ (by show bX < wr.heap.size; omega)).trans cX
          have z0 := (blk_facts hx5).1 0
          have z1 := (blk_facts hx5).1 1
          have lx5 := lt_of_heap hx5
          have hz5 := hB5.size
          go_wp2_with fail
          clear c0 c1 hown hB
          generalize hW : wr.alloc (.cells #[.string who, .slice (some ⟨bX, oX, none⟩) xn xc] 34) = w5 at *
          generalize wr.heap.size = b7 at *
          clear hW hx5
          obtain ⟨i0, hi0, hz0, hz1, hz2⟩ := info_parts info_gap
          go_region_held3 (fun w' => w'.cell? ⟨b7, 0, none⟩ = some (.string who) ∧ w'.cell? ⟨b7, 1, none⟩ = some (.slice (some ⟨bX, oX, none⟩) xn xc) ∧ w'.cell? ⟨bX, oX + (E - 1), none⟩ = some (.int .i64 tX))
            (first | go_keep | with_reducible exact ⟨q0, q1, qX⟩)
            (first
              | (refine step_append_lies _ (by rfl) _ _ _ (by rfl) w.heap.size 51 i0 _ 3 32 Tryz.underlying41 hi0 hz0 hz1 hz2 rfl (by omega) _ j (acc.flatMap gpB) (by rfl) (hown5.drew.alloc _) ⟨w5.heap.size, 0, none⟩ 1 1 [.string who, .int .i64 E, .int .i64 (tX - f)] (by rfl) (by rfl) (World.news_of_block (cs := #[.string who, .int .i64 E, .int .i64 (tX - f)]) (t := 51) (fr := (0, 0)) (heap_alloc_new w5.drew _)) (by simp [Value.oneCell']) (by omega) (by unfold maxLen; omega) (by omega) (by simp; omega) (w5.heap.size + 1) (by simp) ?_; intro gg cap w7 hown7 hgrow hat hlt7; have q0 := (hgrow.cell_far ⟨b7, 0, none⟩ (by simp; omega) (fun e => by have := hneS b7 e.symm; omega)).trans ((World.cell?_alloc_lt w5 _ ⟨b7, 0, none⟩ (by show b7 < w5.heap.size; omega)).trans z0); have q1 := (hgrow.cell_far ⟨b7, 1, none⟩ (by simp; omega) (fun e => by have := hneS b7 e.symm; omega)).trans ((World.cell?_alloc_lt w5 _ ⟨b7, 1, none⟩ (by show b7 < w5.heap.size; omega)).trans z1); have qX := (hgrow.cell_far ⟨bX, oX + (E - 1), none⟩ (by simp; omega) (fun e => by have := hneS bX e.symm; omega)).trans ((World.cell?_alloc_lt w5 _ ⟨bX, oX + (E - 1), none⟩ (by show bX < w5.heap.size; omega)).trans cX5)))
          have hB7 := below_own ((below_drewN hB5 1).alloc (by simpa using hz5) _) (hown5.drew.alloc _) hgrow (by simp; omega) (Nat.le_refl _)
          have H := Lib.hid (And.intro (snoc_gp (by omega) hown7) hB7)
          clear hown7 hgrow hat hlt7 q0 q1 qX cX5 z0 z1 hi0 hz0 hz1 hz2 hown5 hB5 hwr hneS hB7
          go_wp2
          go_roundw
          case rel => exact ⟨j + 1, _, by omega, by go_num, Lib.hid (by rw [List.length_append, hla.out]; rfl), H.out.1, H.out.2, Lib.hid (by rw [← hG.out, hT.out, List.map_append, List.map_cons, List.map_nil, mkB_val (by omega)]; simp)⟩
          case measure => simp [intOf]; omega
        · obtain rfl : j = k := by omega
          have hGe := hG.out
          rw [drop_end (by rw [hl.out]; exact Nat.le_refl _)] at hGe
          have hGe2 : acc.map Subtype.val = gapLs E f l := by simpa [gapLs] using hGe
          have hv := hSV.out acc hGe2
          have hla' := hla.out
          rcases hown.2 with ⟨hv9, h9⟩ | ⟨gb, cap, cur, hv9, _, hgb, _, _, _, _⟩
          · subst h9
            subst hv9
            obtain rfl : acc = [] := List.eq_nil_of_length_eq_zero hla'
            rw [insL_nil] at hv
            go_wp2_with fail
            refine (gpSort0_c _ _ _ _).mono ?_; rintro e w8 ⟨rfl, rfl⟩
            go_wp2
            go_ret2
            refine ⟨_, _, rfl, ?_, hB⟩
            rw [← hv]; exact RN.nil_ _ _ _ _ _
          · subst hv9
            have eg : ∀ args w, (callFunc 83 args).run Tryz.prog w = .ok (.enter 83 args) w := enters_of Tryz.func83 (by kernel_rfl) rfl
            have hS := Lib.hid (gpSort_c gpB (fun _ => rfl) (fun x v hv => by simp [gpB, gpE] at hv; rcases hv with rfl | rfl | rfl <;> rfl) gapCf 83 #[] eg _ _ _ cap acc _ (fun _ _ _ _ x y => gapCmp_c x y _) hown (by omega))
            go_wp2_with fail
            refine hS.out.mono ?_; rintro e w8 ⟨rfl, hown8, hg8⟩
            have hB8 := below_own hB hown hg8 hB.size (Nat.le_refl _)
            go_wp2
            go_ret2
            refine ⟨_, _, rfl, ?_, hB8⟩
            rw [gpB_flat, hv] at hown8
            exact RN.of_own gpE_len hown8 (by rw [← hv, List.length_map, insL_len, hla']) (by omega)
/-! ## with errors -/
def gapsE (r : Race) (l : List Sw) (q : Int) : Int := if fieldErr r l ≠ 0 then fieldErr r l else if ¬ (1 ≤ q ∧ q ≤ lenV r) then 1 else 0
def gapsLs (r : Race) (l : List Sw) (q : Int) : List Gp := if gapsE r l q = 0 then gpSortL (gapLs q.toNat (firstG q.toNat l) l) else []
theorem gapsE_ok {r : Race} {l : List Sw} {q : Int} (h : gapsE r l q = 0) : fieldErr r l = 0 ∧ 1 ≤ q ∧ q ≤ lenV r := by
  unfold gapsE at h
  split at h
  · rename_i h1; exact absurd h h1
  · rename_i h1
    split at h
    · cases h
    · omega
theorem field_lens {r : Race} {l : List Sw} {w : World} {A : Option Addr} {n : Nat} (h : RSw w A n l) (hf : fieldErr r l = 0) : (∀ x ∈ l, x.n = (lenV r).toNat) ∧ ∀ x ∈ l, ∀ y ∈ x.sp, 0 ≤ y ∧ y ≤ 360000 := by
  obtain ⟨hr, _, hw⟩ := fieldErr_ok hf
  refine ⟨fun x hx => ?_, fun x hx y hy => (splits_bd (wholeErr_ok (hw x hx)).1).2.2 y hy⟩
  have h1 := whole_len (hw x hx)
  have h2 := (h.2 x hx).len
  omega
set_option maxHeartbeats 1600000 in
set_option maxRecDepth 100000 in
theorem gaps_err (r : Race) (A : Option Addr) (n c : Nat) (q : Int) (l : List Sw) (w : World) (h : RSw w A n l) (h0 : gapsE r l q ≠ 0) :
    Calls Tryz.prog 14 #[r.val, .slice A n c, .int .i64 q] w fun e w' => e = .returned (.tuple #[.slice none 0 0, .int .i64 (gapsE r l q)]) ∧ Below w.heap.size w w' := by
  have hE : gapsE r l q = if fieldErr r l ≠ 0 then fieldErr r l else if ¬ (1 ≤ q ∧ q ≤ lenV r) then 1 else 0 := rfl
  have hF := Lib.hid (fun W h => checkField_c r A n c l W h)
  have hrr := fun (h : fieldErr r l = 0) => (fieldErr_ok h).1
  have hL := fun W (h : fieldErr r l = 0) => Lengths_ok r W (hrr h)
  generalize gapsE r l q = E at *
  generalize fieldErr r l = FE at *
  generalize lenV r = LV at *
  obtain ⟨key, metres, stroke, course, legs, sex, young, old⟩ := r
  dsimp only [Race.val, Race.cells] at *
  clear hrr
  have hb := heap_alloc_new w (.cells #[.string key, .int .i64 metres, .int .i64 stroke, .int .i64 course, .int .i64 legs, .int .i64 sex, .int .i64 young, .int .i64 old] 27)
  by_cases hf : FE = 0
  rotate_left
  · obtain rfl : E = FE := by rw [hE, if_pos hf]
    have ht : (E != 0) = true := by simpa using h0
    clear h0 hE hf hL
    go_enter Tryz.func14, Tryz.ntmps14
    go_wp2_with fail
    refine (hF.out _ (h.alloc _)).mono ?_; rintro e w1 ⟨rfl, B1⟩
    go_wp2
    go_ret2
    exact ⟨rfl, below_box B1⟩
  have hL' := Lib.hid (fun W => hL W hf)
  subst hf
  rw [if_neg (by simp)] at hE
  by_cases hq : ¬ (1 ≤ q ∧ q ≤ LV)
  rotate_left
  · rw [if_neg hq] at hE; exact absurd hE h0
  rw [if_pos hq] at hE
  subst hE
  clear h0 hL
  have d1 := Lib.hid (show decide (1 ≤ q ∧ q ≤ LV) = false by simpa using hq)
  clear hq
  go_enter Tryz.func14, Tryz.ntmps14
  go_wp2_with fail
  refine (hF.out _ (h.alloc _)).mono ?_; rintro e w1 ⟨rfl, B1⟩
  replace hb := blk_below hb B1
  have zr := (blk_facts hb).1
  go_wp2_with fail
  refine (hL'.out _).mono ?_; rintro e w2 ⟨rfl, B2⟩
  go_wp2_with fail
  refine (within_c _ _ _ _).mono ?_; rintro e w' ⟨rfl, rfl⟩
  rw [d1.out]
  go_wp2
  go_ret2
  exact ⟨rfl, below_next (below_box B1) B2⟩
theorem gapsA_c (r : Race) (A : Option Addr) (n c : Nat) (q : Int) (l : List Sw) (w : World) (h : RSw w A n l) (hn : n ≤ 19) :
    Calls Tryz.prog 14 #[r.val, .slice A n c, .int .i64 q] w fun e w' => ∃ A' n' c', e = .returned (.tuple #[.slice A' n' c', .int .i64 (gapsE r l q)]) ∧ n' ≤ n ∧ RGp w' A' n' (gapsLs r l q) ∧ Below w.heap.size w w' := by
  unfold gapsLs
  by_cases h0 : gapsE r l q = 0
  · rw [if_pos h0, h0]
    obtain ⟨hf, h1, h2⟩ := gapsE_ok h0
    obtain ⟨Q, rfl⟩ : ∃ Q : Nat, q = Q := ⟨q.toNat, by omega⟩
    obtain ⟨M, hM⟩ : ∃ M : Nat, lenV r = M := ⟨(lenV r).toNat, by omega⟩
    obtain ⟨hx1, hbx⟩ := field_lens h hf
    rw [Int.toNat_natCast]
    refine (gapsX_c r A n c Q M l w h hf hn hM (by omega) (by omega) (fun x hx => by rw [hx1 x hx, hM]; rfl) hbx).mono ?_
    rintro e w' ⟨A', c', he, hr, hB⟩
    exact ⟨A', n, c', he, Nat.le_refl _, hr, hB⟩
  · rw [if_neg h0]
    refine (gaps_err r A n c q l w h h0).mono ?_
    rintro e w' ⟨he, hB⟩
    exact ⟨none, 0, 0, he, Nat.zero_le _, RN.nil_ _ _ _ _ _, hB⟩
end Go.Proofs.YtlddeeagnlgciaaGreatDoor
