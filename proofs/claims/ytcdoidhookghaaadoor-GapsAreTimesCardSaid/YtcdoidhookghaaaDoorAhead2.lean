import Derived.Test.YtcdoidhookghaaaDoorItoa
import Derived.Test.YtcdoidhookghaaaDoorEqPr
import Derived.Test.YtcdoidhookghaaaDoorRows2
import Derived.Test.YtcdoidhookghaaaDoorSwims2
import Derived.Deep.AppendLies
/- How many hundredths all were before a line: the reference's and the program's. -/
namespace Go.Proofs.YtcdoidhookghaaaDoor
open Go.RowKit
set_option linter.unusedVariables false

theorem info_pair : (Tryd.prog.info? 93).map (fun i => (i.zero, i.size, i.bytes)) = some (some (.agg #[.string ⟨#[]⟩, .string ⟨#[]⟩]), 2, 32) := by kernel_rfl
def aheadL (t : Int) (l : List Sw) : List Pr := l.map fun x => ⟨x.who, itoaS (t - x.sp.getLastD 0)⟩
theorem aheadL_at {t : Int} {l : List Sw} {k : Nat} {x : Sw} (h : l[k]? = some x) : aheadL t (l.drop k) = ⟨x.who, itoaS (t - x.sp.getLastD 0)⟩ :: aheadL t (l.drop (k + 1)) := by rw [drop_at h]; rfl
end Go.Proofs.YtcdoidhookghaaaDoor

/- How many hundredths all were before a line: the program's. -/
namespace Go.Proofs.YtcdoidhookghaaaDoor
open Go.RowKit
set_option linter.unusedVariables false

theorem fieldGo_mem {r : Race} : ∀ {l : List Sw} {p : Option ByteArray}, fieldGo r p l = 0 → ∀ x ∈ l, wholeErr r x.sp = 0
  | [], _, _, x, h => by simp at h
  | y :: l, p, h0, x, h => by
    unfold fieldGo at h0
    split at h0
    · cases h0
    · split at h0
      · cases h0
      · split at h0
        · rename_i h1; exact absurd h0 h1
        · rename_i h1
          rcases List.mem_cons.mp h with rfl | h
          · omega
          · exact fieldGo_mem h0 x h
theorem fieldErr_ok {r : Race} {l : List Sw} (h : fieldErr r l = 0) : raceErr r = 0 ∧ l.length ≤ 20 ∧ ∀ x ∈ l, wholeErr r x.sp = 0 := by
  unfold fieldErr at h
  split at h
  · rename_i h1; exact absurd h h1
  · split at h
    · cases h
    · exact ⟨by omega, by omega, fieldGo_mem h⟩
theorem whole_len {r : Race} {l : List Int} (h : wholeErr r l = 0) : (l.length : Int) = lenV r := (splitsErr_ok (wholeErr_ok h).2.2.2.1).1
def aheadE (r : Race) (l : List Sw) (sp : List Int) : Int := if fieldErr r l ≠ 0 then fieldErr r l else wholeErr r sp
theorem ahead_err (r : Race) (A B : Option Addr) (n c m d : Nat) (l : List Sw) (sp : List Int) (w : World) (h : RSw w A n l) (hs : RI 3 w B m sp) (h0 : aheadE r l sp ≠ 0) :
    Calls Tryd.prog 49 #[r.val, .slice A n c, .slice B m d] w fun e w' => e = .returned (.tuple #[.slice none 0 0, .int .i64 (aheadE r l sp)]) ∧ Below w.heap.size w w' := by
  have hE : aheadE r l sp = if fieldErr r l ≠ 0 then fieldErr r l else wholeErr r sp := rfl
  have hF := Lib.hid (fun W h => checkField_c r A n c l W h)
  have hW := Lib.hid (fun W h => checkWhole_c r B m d sp W h)
  generalize aheadE r l sp = E at *
  generalize fieldErr r l = FE at *
  generalize wholeErr r sp = WE at *
  obtain ⟨key, metres, stroke, course, legs, sex, young, old⟩ := r
  dsimp only [Race.val, Race.cells] at *
  have hb := heap_alloc_new w (.cells #[.string key, .int .i64 metres, .int .i64 stroke, .int .i64 course, .int .i64 legs, .int .i64 sex, .int .i64 young, .int .i64 old] 27)
  by_cases hf : FE = 0
  · subst hf
    obtain rfl : E = WE := by rw [hE]; simp
    have ht : (E != 0) = true := by simpa using h0
    clear h0 hE
    go_enter Tryd.func49, Tryd.ntmps49
    go_wp2_with fail
    refine (hF.out _ (h.alloc _)).mono ?_; rintro e w1 ⟨rfl, B1⟩
    replace hb := blk_below hb B1
    have hB := below_box B1
    have zr := (blk_facts hb).1
    go_wp2_with fail
    refine (hW.out _ (hs.below hB)).mono ?_; rintro e w2 ⟨rfl, B2⟩
    go_wp2
    go_ret2
    exact ⟨rfl, below_next hB B2⟩
  · obtain rfl : E = FE := by rw [hE, if_pos hf]
    have ht : (E != 0) = true := by simpa using h0
    clear h0 hE hf
    go_enter Tryd.func49, Tryd.ntmps49
    go_wp2_with fail
    refine (hF.out _ (h.alloc _)).mono ?_; rintro e w1 ⟨rfl, B1⟩
    go_wp2
    go_ret2
    exact ⟨rfl, below_box B1⟩
set_option maxHeartbeats 3200000 in
set_option maxRecDepth 100000 in
theorem ahead_c (r : Race) (A B : Option Addr) (n c m d : Nat) (l : List Sw) (sp : List Int) (w0 : World) (h0 : RSw w0 A n l) (hs0 : RI 3 w0 B m sp) (htab0 : Tb w0) (hE : aheadE r l sp = 0) :
    Calls Tryd.prog 49 #[r.val, .slice A n c, .slice B m d] w0 fun e w' => ∃ A' c', e = .returned (.tuple #[.slice A' n c', .int .i64 0]) ∧ RPr w' A' n (aheadL (sp.getLastD 0) l) ∧ Below w0.heap.size w0 w' := by
  have hF := Lib.hid (fun W h => checkField_c r A n c l W h)
  have hW := Lib.hid (fun W h => checkWhole_c r B m d sp W h)
  obtain ⟨hfe, hwe⟩ : fieldErr r l = 0 ∧ wholeErr r sp = 0 := by
    unfold aheadE at hE; split at hE <;> omega
  rw [hfe] at hF
  rw [hwe] at hW
  obtain ⟨_, hn20, hxe⟩ := fieldErr_ok hfe
  rw [h0.len] at hn20
  have hn : n ≤ 1000 := by omega
  have hlv := whole_len hwe
  have hsb := splits_bd (wholeErr_ok hwe).1
  have hm : 1 ≤ m := by rw [← hs0.len]; exact hsb.1
  have hbs := hsb.2.2
  have hx1 : ∀ x ∈ l, x.n = m := fun x hx => by
    have h1 := whole_len (hxe x hx)
    have h2 := (h0.2 x hx).len
    have h3 := hs0.len
    omega
  have hbx : ∀ x ∈ l, ∀ y ∈ x.sp, 0 ≤ y ∧ y ≤ 360000 := fun x hx => (splits_bd (wholeErr_ok (hxe x hx)).1).2.2
  clear hE hfe hwe hxe hlv hsb
  obtain ⟨key, metres, stroke, course, legs, sex, young, old⟩ := r
  dsimp only [Race.val, Race.cells] at *
  have hb := heap_alloc_new w0 (.cells #[.string key, .int .i64 metres, .int .i64 stroke, .int .i64 course, .int .i64 legs, .int .i64 sex, .int .i64 young, .int .i64 old] 27)
  go_enter Tryd.func49, Tryd.ntmps49
  go_wp2_with fail
  refine (hF.out _ (h0.alloc _)).mono ?_; rintro e w1 ⟨rfl, B1⟩
  replace hb := blk_below hb B1
  have hB0 := below_box B1
  have zr := (blk_facts hb).1
  go_wp2_with fail
  refine (hW.out _ (hs0.below hB0)).mono ?_; rintro e w ⟨rfl, B2⟩
  replace hB0 := below_next hB0 B2
  have h := h0.below hB0
  have hs := hs0.below hB0
  have htab := htab0.below hB0
  clear B1 B2 hb zr hF hW h0 hs0 htab0
  have hmb := hs.bd
  obtain ⟨bS, oS, tS, rfl, lS, htS, cS⟩ := hs.at_ (k := m - 1) (by omega)
  have hlast := last_at hs.len (by omega)
  obtain rfl : sp.getLastD 0 = tS := by rw [hlast] at htS; exact Option.some.inj htS
  have htb := hbs _ (List.mem_of_getElem? hlast)
  generalize htd : sp.getLastD 0 = t at *
  have htd' := Lib.hid htd
  clear htd
  have hbx' := Lib.hid hbx
  have hx1' := Lib.hid hx1
  clear hbs hbx hx1 htS hlast
  have e2 : 0 ≤ (m : Int) - 1 := by omega
  have e2' : (1 : Int) ≤ (m : Int) := by omega
  have e4 : (m : Int) - 1 < m := by omega
  have e1 : IntKind.i64.wrap ((m : Int) - 1) = (m : Int) - 1 := IntWalk.i64_in _ (by omega)
  have e3 : ((m : Int) - 1).toNat = m - 1 := by omega
  go_wp2
  go_loopw [10, 28] (fun out i wr => ∃ (k : Nat) (acc : List Pr), k ≤ n ∧ i = .int .i64 k ∧ acc.length = k ∧ wr.ownsRow w.heap.size 93 2 out k (acc.flatMap prE) ∧ Below w.heap.size w wr ∧ Hid (acc ++ aheadL t (l.drop k) = aheadL t l)) (fun _ i _ => n - (intOf i).toNat)
  case atStart => exact ⟨0, [], Nat.zero_le _, rfl, rfl, World.ownsRow_nil _ _ _ _, Below.refl _ _, Lib.hid rfl⟩
  case round =>
    obtain ⟨k, acc, hk, rfl, hl, hown, hB, hD⟩ := hrel
    have hl' := Lib.hid hl
    clear hl
    by_cases hlt : k < n
    · obtain ⟨b, off, x, rfl, hbl, hx, c0, c1, hI⟩ := (h.below hB).at2 hlt
      have hT := Lib.hid (aheadL_at (t := t) hx)
      have hxm := List.mem_of_getElem? hx
      have hxn := hx1'.out x hxm
      have hxb := hbx'.out x hxm
      obtain ⟨who, xA, xn, xc, xs⟩ := x
      dsimp only at *
      obtain rfl : m = xn := hxn.symm
      have hxnb := hI.bd
      have hIw := (h.2 _ hxm)
      obtain ⟨bX, oX, tX, rfl, lX, htX, cX⟩ := hIw.at_ (k := m - 1) (by dsimp only; omega)
      have hlx := last_at hIw.len (by dsimp only; omega)
      obtain rfl : xs.getLastD 0 = tX := by dsimp only at htX; rw [hlx] at htX; exact Option.some.inj htX
      have htxb := hxb _ (List.mem_of_getElem? hlx)
      generalize xs.getLastD 0 = tx at *
      clear hx hxm hxb hI hIw htX hlx
      have cS' : wr.cell? ⟨bS, oS + (m - 1), none⟩ = some (.int .i64 t) := (hB.cell (p := ⟨bS, oS + (m - 1), none⟩) lS).trans cS
      have cX' : wr.cell? ⟨bX, oX + (m - 1), none⟩ = some (.int .i64 tx) := (hB.cell (p := ⟨bX, oX + (m - 1), none⟩) lX).trans cX
      have hz := hB.size
      have hneS : ∀ i, u10.ownBlock = some i → w.heap.size ≤ i ∧ i < wr.heap.size := hown.lt
      have hwr : IntKind.i64.wrap (t - tx) = t - tx := IntWalk.i64_in _ (by omega)
      have hown5 := hown.alloc (.cells #[.string who, .slice (some ⟨bX, oX, none⟩) m xc] 86)
      have hB5 := hB.alloc hz (.cells #[.string who, .slice (some ⟨bX, oX, none⟩) m xc] 86)
      have hx5 := heap_alloc_new wr (.cells #[.string who, .slice (some ⟨bX, oX, none⟩) m xc] 86)
      have cS5 : (wr.alloc (.cells #[.string who, .slice (some ⟨bX, oX, none⟩) m xc] 86)).cell? ⟨bS, oS + (m - 1), none⟩ = some (.int .i64 t) := (World.cell?_alloc_lt wr _ ⟨bS, oS + (m - 1), none⟩ (by show bS < wr.heap.size; omega)).trans cS'
      have cX5 : (wr.alloc (.cells #[.string who, .slice (some ⟨bX, oX, none⟩) m xc] 86)).cell? ⟨bX, oX + (m - 1), none⟩ = some (.int .i64 tx) := (World.cell?_alloc_lt wr _ ⟨bX, oX + (m - 1), none⟩ (by show bX < wr.heap.size; omega)).trans cX'
      have z0 := (blk_facts hx5).1 0
      have z1 := (blk_facts hx5).1 1
      have lx5 := lt_of_heap hx5
      have hT5 := htab.below hB5
      have hz5 := hB5.size
      go_wp2_with fail
      clear c0 c1 hown hB
      generalize hW : wr.alloc (.cells #[.string who, .slice (some ⟨bX, oX, none⟩) m xc] 86) = w5 at *
      generalize wr.heap.size = b7 at *
      clear hW hx5
      obtain ⟨i0, hi0, hz0, hz1, hz2⟩ := info_parts info_pair
      go_region_held3 (fun w' => w'.cell? ⟨b7, 0, none⟩ = some (.string who) ∧ w'.cell? ⟨b7, 1, none⟩ = some (.slice (some ⟨bX, oX, none⟩) m xc) ∧ w'.cell? ⟨bS, oS + (m - 1), none⟩ = some (.int .i64 t) ∧ w'.cell? ⟨bX, oX + (m - 1), none⟩ = some (.int .i64 tx))
        (first
          | go_keep
          | with_reducible exact ⟨y0, y1, yS, yX⟩
          | with_reducible exact ⟨q0, q1, qS, qX⟩)
        (first
          | (go_at_call 51; refine (itoa_c (t - tx) _ hT5.drew (by omega) (by omega)).mono ?_; rintro e w6 ⟨rfl, B6⟩; obtain ⟨hc6, hf6⟩ := bcell B6; have y0 := (hc6 b7 0 lx5).trans z0; have y1 := (hc6 b7 1 lx5).trans z1; have yS := (hc6 bS (oS + (m - 1)) (by show bS < w5.heap.size; omega)).trans cS5; have yX := (hc6 bX (oX + (m - 1)) (by show bX < w5.heap.size; omega)).trans cX5; have hown6 := own_below hown5.drew B6; have hz6 : w5.heap.size ≤ w6.heap.size := B6.size)
          | (refine step_append_lies _ (by rfl) _ _ _ (by rfl) w.heap.size 93 i0 _ 2 32 Tryd.underlying88 hi0 hz0 hz1 hz2 rfl (by omega) _ k (acc.flatMap prE) (by rfl) (hown6.alloc _) ⟨w6.heap.size, 0, none⟩ 1 1 [.string who, .string (itoaS (t - tx))] (by rfl) (by rfl) (World.news_of_block (cs := #[.string who, .string (itoaS (t - tx))]) (t := 93) (fr := (0, 0)) (heap_alloc_new w6 _)) (by simp [Value.oneCell']) (by omega) (by unfold maxLen; omega) (by omega) (by simp; omega) (w6.heap.size + 1) (by simp) ?_; intro gg cap w7 hown7 hgrow hat hlt7; have q0 := (hgrow.cell_far ⟨b7, 0, none⟩ (by simp; omega) (fun e => by have := hneS b7 e.symm; omega)).trans ((World.cell?_alloc_lt w6 _ ⟨b7, 0, none⟩ (by show b7 < w6.heap.size; omega)).trans y0); have q1 := (hgrow.cell_far ⟨b7, 1, none⟩ (by simp; omega) (fun e => by have := hneS b7 e.symm; omega)).trans ((World.cell?_alloc_lt w6 _ ⟨b7, 1, none⟩ (by show b7 < w6.heap.size; omega)).trans y1); have qS := (hgrow.cell_far ⟨bS, oS + (m - 1), none⟩ (by simp; omega) (fun e => by have := hneS bS e.symm; omega)).trans ((World.cell?_alloc_lt w6 _ ⟨bS, oS + (m - 1), none⟩ (by show bS < w6.heap.size; omega)).trans yS); have qX := (hgrow.cell_far ⟨bX, oX + (m - 1), none⟩ (by simp; omega) (fun e => by have := hneS bX e.symm; omega)).trans ((World.cell?_alloc_lt w6 _ ⟨bX, oX + (m - 1), none⟩ (by show bX < w6.heap.size; omega)).trans yX)))
      have hB6 := below_next (below_drewN hB5 1) B6
      have hB7 := below_own (hB6.alloc hB6.size _) (hown6.alloc _) hgrow (by have := hB6.size; simp; omega) (Nat.le_refl _)
      have hown7' : w7.ownsRow w.heap.size 93 2 (.slice (some ⟨gg, 0, none⟩) (k + 1) cap) (k + 1) ((acc ++ [(⟨who, itoaS (t - tx)⟩ : Pr)]).flatMap prE) := by rw [← flat_snoc]; exact hown7
      clear hown7 hgrow hat hlt7 q0 q1 qS qX y0 y1 yS yX cS5 cX5 z0 z1 hi0 hz0 hz1 hz2 hc6 hf6 hown6 hown5 hB5 B6 hB6 hwr cS' cX'
      go_wp2
      go_roundw
      case rel => exact ⟨k + 1, acc ++ [(⟨who, itoaS (t - tx)⟩ : Pr)], by omega, by go_num, by rw [List.length_append, hl'.out]; rfl, hown7', hB7, Lib.hid (by rw [← hD.out, hT.out]; simp)⟩
      case measure => simp [intOf]; omega
    · obtain rfl : k = n := by omega
      have hD' : Hid (acc = aheadL t l) := Lib.hid (by rw [← hD.out, drop_end (by rw [h.len]; omega)]; simp [aheadL])
      obtain ⟨A', c', rfl⟩ := own_shape hown
      go_wp2
      go_ret2
      exact ⟨A', c', rfl, by rw [htd'.out, ← hD'.out]; exact RN.of_own prE_len hown hl'.out (by omega), below_next hB0 hB⟩
end Go.Proofs.YtcdoidhookghaaaDoor
