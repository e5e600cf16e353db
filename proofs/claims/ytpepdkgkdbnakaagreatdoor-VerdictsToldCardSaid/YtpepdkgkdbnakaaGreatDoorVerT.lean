/- Lists of verdicts: judge.Verdicts, tumbref1.VerdictsOf; slices.EqualFunc by tumbref1.SameVerdict. Printed by wip/genvert.py. -/
import Derived.Test.YtpepdkgkdbnakaaGreatDoorVerS
namespace Go.Proofs.YtpepdkgkdbnakaaGreatDoor
open Go.RowKit Go.Shelf Go.Lib Go.Sort
set_option linter.unusedVariables false

/-- a verdict that lies in a row -/
structure Vx where
  who : ByteArray
  fl : Int
  A : Option Addr
  c : Nat
  ids : List ByteArray
def vxE (x : Vx) : List Value := [.string x.who, .int .i64 x.fl, .slice x.A x.ids.length x.c]
theorem vxE_len : ∀ x, (vxE x).length = 3 := fun _ => rfl
def Vx.abs (x : Vx) : ByteArray × Int × List ByteArray := (x.who, x.fl, x.ids)
def RVx (w : World) (A : Option Addr) (n : Nat) (L : List Vx) : Prop := RN 3 vxE 69 w A n L ∧ ∀ x ∈ L, RS 9 w x.A x.ids.length x.ids
theorem RVx.below {w w' : World} {A : Option Addr} {n : Nat} {L : List Vx} (h : RVx w A n L) (B : Below w.heap.size w w') : RVx w' A n L := ⟨h.1.below B, fun x hx => (h.2 x hx).below B⟩
theorem RVx_at3 {w : World} {A : Option Addr} {n : Nat} {L : List Vx} (h : RVx w A n L) {k : Nat} (hk : k < n) : ∃ b off x, A = some ⟨b, off, none⟩ ∧ b < w.heap.size ∧ L[k]? = some x ∧ w.cell? ⟨b, off + k * 3, none⟩ = some (.string x.who) ∧ w.cell? ⟨b, off + k * 3 + 1, none⟩ = some (.int .i64 x.fl) ∧ w.cell? ⟨b, off + k * 3 + 2, none⟩ = some (.slice x.A x.ids.length x.c) ∧ RS 9 w x.A x.ids.length x.ids := by
  obtain ⟨b, off, x, hA, hb, hx, hc⟩ := h.1.at_ hk
  exact ⟨b, off, x, hA, hb, hx, hc 0 _ rfl, hc 1 _ rfl, hc 2 _ rfl, h.2 x (List.mem_of_getElem? hx)⟩
theorem info_verdict : (Tryz.prog.info? 69).map (fun i => (i.zero, i.size, i.bytes)) = some (some (.agg #[.string ⟨#[]⟩, .int .i64 0, .slice none 0 0]), 3, 48) := by kernel_rfl
/-- verdicts under way -/
structure VsK (w : World) (u : Value) (L : List Vx) (wx : World) : Prop where
  o : wx.ownsRow w.heap.size 69 3 u L.length (L.flatMap vxE)
  r : ∀ x ∈ L, RS 9 wx x.A x.ids.length x.ids
  bel : Below w.heap.size w wx
section
variable {w wx w' : World} {u v' : Value} {L : List Vx} {x : Vx}
theorem VsK.start (B : Below w.heap.size w wx) : VsK w (.slice none 0 0) [] wx := ⟨World.ownsRow_nil _ _ _ _, (fun x h => by cases h), B⟩
theorem VsK.below (h : VsK w u L wx) (B : Below wx.heap.size wx w') : VsK w u L w' := ⟨own_below h.o B, fun x hx => (h.r x hx).below B, below_next h.bel B⟩
theorem VsK.app (h : VsK w u L wx) (hx : RS 9 wx x.A x.ids.length x.ids) (ho : w'.ownsRow w.heap.size 69 3 v' (L.length + 1) (L.flatMap vxE ++ vxE x)) (hg : wx.grownBy w' u.ownBlock) : VsK w v' (L ++ [x]) w' := by
  have hk := keep_own7 h.o hg
  refine ⟨by rw [List.length_append, List.flatMap_append, List.flatMap_singleton]; exact ho, fun y hy => ?_, below_own h.bel h.o hg h.bel.size (Nat.le_refl _)⟩
  rcases List.mem_append.1 hy with hy | hy
  · exact (h.r y hy).keep (by decide) hk
  · obtain rfl := List.mem_singleton.1 hy
    exact hx.keep (by decide) hk
theorem VsK.fin {A : Option Addr} {n c : Nat} (h : VsK w (.slice A n c) L wx) (hn : n = L.length) (hb : n ≤ 140737488355328) : RVx wx A n L := ⟨RN.of_own vxE_len (by rw [hn] at h ⊢; exact h.o) hn.symm hb, h.r⟩
end
/-- what is decided of all of whom something is told -/
def vdsV (l : List Rp) (at_ : Int) (gone : ByteArray → Int → Bool) : List (ByteArray × Int × List ByteArray) := (toldV l at_).map fun who => (who, fltV l who at_ (gone who), idsV l who at_ (fltV l who at_ (gone who)))
theorem toldV_len (l : List Rp) (at_ : Int) : (toldV l at_).length ≤ l.length := Nat.le_trans (onceB_len _) (toldL_len l at_)
theorem equalS2_c (A1 A2 : Option Addr) (n c m d : Nat) (l : List ByteArray) (w : World) (h1 : RS 9 w A1 n l) (h2 : RS 9 w A2 m l) :
    Calls Tryz.prog 27 #[.slice A1 n c, .slice A2 m d] w fun e w' => e = .returned (.bool true) ∧ Below w.heap.size w w' := by
  have hn := h1.len
  have hm := h2.len
  have b1 := h1.bd
  obtain rfl : n = m := hn.symm.trans hm
  rcases Nat.eq_zero_or_pos n with h0 | hp
  · subst h0
    exact (Tryz.slices_Equal_string_empty A1 A2 c 0 d w (by omega)).mono fun _ _ ⟨he, hw⟩ => ⟨he, by rw [hw]; exact Below.refl _ _⟩
  · obtain ⟨b1', o1, rfl, hc1⟩ := shelfS h1 hp
    obtain ⟨b2', o2, rfl, hc2⟩ := shelfS h2 hp
    refine (Tryz.slices_Equal_string b1' o1 n c b2' o2 n d l l w (by omega) (by omega) (by omega) (by omega) hc1 hc2).mono fun _ _ ⟨he, q, hw⟩ => ⟨?_, by rw [hw]; exact below_drewN (Below.refl _ _) q⟩
    rw [he]; simp
theorem sameV_c (who : ByteArray) (fl : Int) (A1 A2 : Option Addr) (c1 c2 : Nat) (ids : List ByteArray) (w : World) (h1 : RS 9 w A1 ids.length ids) (h2 : RS 9 w A2 ids.length ids) :
    Calls Tryz.prog 41 #[.agg #[.string who, .int .i64 fl, .slice A1 ids.length c1], .agg #[.string who, .int .i64 fl, .slice A2 ids.length c2]] w fun e w' => e = .returned (.bool true) ∧ Below w.heap.size w w' := by
  have hb1 := blk_alloc (heap_alloc_new w (.cells #[.string who, .int .i64 fl, .slice A1 ids.length c1] 69)) (.cells #[.string who, .int .i64 fl, .slice A2 ids.length c2] 69)
  have hb2 := heap_alloc_new (w.alloc (.cells #[.string who, .int .i64 fl, .slice A1 ids.length c1] 69)) (.cells #[.string who, .int .i64 fl, .slice A2 ids.length c2] 69)
  rw [alloc_sizeS] at hb2
  have hB := below_next (below_new w (.cells #[.string who, .int .i64 fl, .slice A1 ids.length c1] 69)) (below_new (w.alloc (.cells #[.string who, .int .i64 fl, .slice A1 ids.length c1] 69)) (.cells #[.string who, .int .i64 fl, .slice A2 ids.length c2] 69))
  have x0 := (blk_facts hb1).1 0
  have x1 := (blk_facts hb1).1 1
  have x2 := (blk_facts hb1).1 2
  have y0 := (blk_facts hb2).1 0
  have y1 := (blk_facts hb2).1 1
  have y2 := (blk_facts hb2).1 2
  have hE := Lib.hid (equalS2_c A1 A2 ids.length c1 ids.length c2 ids _ (h1.below hB) (h2.below hB))
  clear hb1 hb2 h1 h2
  generalize ids.length = n at *
  go_enter Tryz.func41, Tryz.ntmps41
  go_wp2_with fail
  refine hE.out.mono ?_; rintro e w' ⟨rfl, B⟩
  have hB2 := below_next hB B
  go_wp2
  go_ret
  exact ⟨rfl, hB2⟩
set_option maxHeartbeats 1600000 in
set_option maxRecDepth 100000 in
theorem equalV_c (A1 A2 : Option Addr) (n c m d : Nat) (L1 L2 : List Vx) (w : World) (h1 : RVx w A1 n L1) (h2 : RVx w A2 m L2) (he : L1.map Vx.abs = L2.map Vx.abs) :
    Calls Tryz.prog 39 #[.slice A1 n c, .slice A2 m d, .func (.func 41) #[] #[]] w fun e w' => e = .returned (.bool true) ∧ Below w.heap.size w w' := by
  have hnm : n = m := by
    have e1 := h1.1.len
    have e2 := h2.1.len
    have e3 := congrArg List.length he
    rw [List.length_map, List.length_map] at e3
    omega
  subst hnm
  have b1 := h1.1.bd
  have hR1 := Lib.hid (fun W B => h1.below (w' := W) B)
  have hR2 := Lib.hid (fun W B => h2.below (w' := W) B)
  have he' := Lib.hid he
  clear h1 h2 he
  go_enter Tryz.func39, Tryz.ntmps39
  go_wp2_with fail
  go_loopw [17] (fun i wr => ∃ k : Nat, k ≤ n ∧ i = .int .i64 k ∧ Below w.heap.size w wr) (fun i _ => n - (intOf i).toNat)
  case atStart => exact ⟨0, Nat.zero_le _, rfl, Below.refl _ _⟩
  case round =>
    rename World => wr
    obtain ⟨k, hk, rfl, hB⟩ := hrel
    by_cases hlt : k < n
    · have hlti : (k : Int) < n := by omega
      obtain ⟨b, off, x, rfl, hbl, hx, c0, c1, c2, rx⟩ := RVx_at3 (hR1.out _ hB) hlt
      obtain ⟨b', off', y, rfl, hbl', hy, d0, d1, d2, ry⟩ := RVx_at3 (hR2.out _ hB) hlt
      have hxy : x.abs = y.abs := by
        have h9 := congrArg (fun l => l[k]?) he'.out
        simp only [List.getElem?_map, hx, hy, Option.map_some, Option.some.injEq] at h9
        exact h9
      obtain ⟨who, fl, A, cc, ids⟩ := x
      obtain ⟨who', fl', A', cc', ids'⟩ := y
      simp only [Vx.abs, Prod.mk.injEq] at hxy
      obtain ⟨rfl, rfl, rfl⟩ := hxy
      dsimp only at *
      have hs := Lib.hid (fun W (B : Below wr.heap.size wr W) => sameV_c who fl A A' cc cc' ids W (rx.below B) (ry.below B))
      have hB1 := below_new wr (.cells #[.string who, .int .i64 fl, .slice A ids.length cc] 69)
      have hB2 := below_next hB1 (below_new (wr.alloc (.cells #[.string who, .int .i64 fl, .slice A ids.length cc] 69)) (.cells #[.string who, .int .i64 fl, .slice A' ids.length cc'] 69))
      have hs2 := Lib.hid (hs.out _ hB2)
      have hn1 := blk_alloc (heap_alloc_new wr (.cells #[.string who, .int .i64 fl, .slice A ids.length cc] 69)) (.cells #[.string who, .int .i64 fl, .slice A' ids.length cc'] 69)
      have hn2 := heap_alloc_new (wr.alloc (.cells #[.string who, .int .i64 fl, .slice A ids.length cc] 69)) (.cells #[.string who, .int .i64 fl, .slice A' ids.length cc'] 69)
      rw [alloc_sizeS] at hn2
      have x0 := (blk_facts hn1).1 0
      have x1 := (blk_facts hn1).1 1
      have x2 := (blk_facts hn1).1 2
      have y0 := (blk_facts hn2).1 0
      have y1 := (blk_facts hn2).1 1
      have y2 := (blk_facts hn2).1 2
      have e0 := (World.cell?_of_block (hB1.block b' hbl')).trans d0
      have e1 := (World.cell?_of_block (hB1.block b' hbl')).trans d1
      have e2 := (World.cell?_of_block (hB1.block b' hbl')).trans d2
      have hBB := below_next hB hB2
      clear hx hy hs rx ry hn1 hn2
      generalize ids.length = q at *
      go_wp2_with fail
      refine hs2.out.mono ?_; rintro e w5 ⟨rfl, B5⟩
      have hB5 := below_next hBB B5
      go_wp2
      go_roundw
      case rel => exact ⟨k + 1, by omega, by go_num, hB5⟩
      case measure => simp [intOf]; omega
    · obtain rfl : k = n := by omega
      go_wp2
      go_ret
      exact ⟨rfl, hB⟩
/-- what Verdicts and Final hand back -/
def RetVs (w : World) (E : Int) (D : List (ByteArray × Int × List ByteArray)) (e : Ending) (w' : World) : Prop := ∃ (A : Option Addr) (n c : Nat) (L : List Vx), e = .returned (.tuple #[.slice A n c, .int .i64 E]) ∧ RVx w' A n L ∧ L.map Vx.abs = D ∧ Below w.heap.size w w'
def RetV1 (w : World) (D : List (ByteArray × Int × List ByteArray)) (e : Ending) (w' : World) : Prop := ∃ (A : Option Addr) (n c : Nat) (L : List Vx), e = .returned (.slice A n c) ∧ RVx w' A n L ∧ L.map Vx.abs = D ∧ Below w.heap.size w w'
theorem never_c (f : Int) (W : World) : Calls Tryz.prog 135 #[.int .i64 f] W fun e w' => e = .returned (.bool false) ∧ Below W.heap.size W w' := by
  go_enter Tryz.func135, Tryz.ntmps135
  go_wp2
  go_ret
  exact ⟨rfl, Below.refl _ _⟩
def momB (at_ : Int) : Bool := decide (0 ≤ at_ ∧ at_ ≤ 345686399999)
def vrdE (l : List Rp) (at_ : Int) : Int := if rpErr l ≠ 0 then rpErr l else if momB at_ = true then 0 else 1
theorem vds_take {l : List Rp} {at_ : Int} {gone : ByteArray → Int → Bool} {k : Nat} {who : ByteArray} (h : (toldV l at_)[k]? = some who) : ((toldV l at_).take (k + 1)).map (fun who => (who, fltV l who at_ (gone who), idsV l who at_ (fltV l who at_ (gone who)))) = ((toldV l at_).take k).map (fun who => (who, fltV l who at_ (gone who), idsV l who at_ (fltV l who at_ (gone who)))) ++ [(who, fltV l who at_ (gone who), idsV l who at_ (fltV l who at_ (gone who)))] := by
  rw [List.take_add_one, h, List.map_append]; rfl
set_option maxHeartbeats 6400000 in
set_option maxRecDepth 100000 in
theorem verdicts_c (A : Option Addr) (n c : Nat) (l : List Rp) (at_ : Int) (w : World) (h : RRp w A n l) (hn : n ≤ 1000) :
    Calls Tryz.prog 37 #[.slice A n c, .int .i64 at_] w (RetVs w (vrdE l at_) (if vrdE l at_ = 0 then vdsV l at_ (fun _ _ => false) else [])) := by
  have hC := Lib.hid (checkReports_c A n c l w h)
  have hT := Lib.hid (fun W (B : Below w.heap.size w W) => told_c A n c l at_ W (h.below B) (by omega))
  have hV := Lib.hid (fun who W (B : Below w.heap.size w W) => verdictN_c A n c l who at_ (fun _ => false) W (h.below B) (by omega) (fun j W2 _ _ => never_c _ W2))
  have hE := Lib.hid (show vrdE l at_ = if rpErr l ≠ 0 then rpErr l else if momB at_ = true then 0 else 1 from rfl)
  have hD := Lib.hid (show vdsV l at_ (fun _ _ => false) = (toldV l at_).map fun who => (who, fltV l who at_ (fun _ => false), idsV l who at_ (fltV l who at_ (fun _ => false))) from rfl)
  have hst := Lib.hid (fun k who h => vds_take (l := l) (at_ := at_) (gone := fun _ _ => false) (k := k) (who := who) h)
  have hTl := toldV_len l at_
  rw [h.len] at hTl
  have hmb : momB at_ = decide (0 ≤ at_ ∧ at_ ≤ 345686399999) := rfl
  generalize vrdE l at_ = E at *
  generalize rpErr l = RE at *
  generalize momB at_ = mb at *
  generalize toldV l at_ = TV at *
  have hmb' := Lib.hid hmb
  clear hmb h
  go_enter Tryz.func37, Tryz.ntmps37
  go_wp2_with fail
  refine hC.out.mono ?_; rintro e w1 ⟨rfl, B1⟩
  by_cases h0 : RE = 0
  rotate_left
  · have hd : (RE != 0) = true := by simpa using h0
    obtain rfl : E = RE := by rw [hE.out, if_pos h0]
    have h0' := Lib.hid h0
    clear h0 hE
    go_wp2
    go_ret2
    exact ⟨none, 0, 0, [], rfl, ⟨RN.nil_ _ _ _ _ _, fun x h => by cases h⟩, by first | rfl | (rw [if_neg h0'.out]; rfl), B1⟩
  subst h0
  cases mb
  · obtain rfl : E = 1 := by rw [hE.out, if_neg (by decide), if_neg (by decide)]
    clear hE
    go_wp2_with (go_at_call 132; refine (isMoment_c _ _).mono ?_; rintro e w' ⟨rfl, rfl⟩; rw [← hmb'.out])
    go_ret2
    exact ⟨none, 0, 0, [], rfl, ⟨RN.nil_ _ _ _ _ _, fun x h => by cases h⟩, by first | rfl | (rw [if_neg (by decide)]; rfl), B1⟩
  obtain rfl : E = 0 := by rw [hE.out, if_neg (by decide), if_pos rfl]
  clear hE
  go_wp2_with (first | (go_at_call 132; refine (isMoment_c _ _).mono ?_; rintro e w' ⟨rfl, rfl⟩; rw [← hmb'.out]))
  refine (hT.out _ B1).mono ?_; rintro e w2 ⟨A2, c2, rfl, r2, B2⟩
  have hB2 := below_next B1 B2
  have K0 : VsK w (.slice none 0 0) [] w2 := VsK.start hB2
  have hTd := Lib.hid (show TV.map (fun who => (who, fltV l who at_ (fun _ => false), idsV l who at_ (fltV l who at_ (fun _ => false)))) = vdsV l at_ (fun _ _ => false) from hD.out.symm)
  generalize hm : TV.length = m at *
  have hm' := Lib.hid hm
  clear hm hT hC B1 B2 hD
  go_wp2_with fail
  go_loopw [7, 24] (fun u i wr => ∃ (k : Nat) (L : List Vx), k ≤ m ∧ i = .int .i64 k ∧ L.length ≤ k ∧ VsK w u L wr ∧ RS 9 wr A2 m TV ∧ Hid (L.map Vx.abs = (TV.take k).map (fun who => (who, fltV l who at_ (fun _ => false), idsV l who at_ (fltV l who at_ (fun _ => false)))))) (fun _ i _ => m - (intOf i).toNat)
  case atStart => exact ⟨0, [], Nat.zero_le _, rfl, Nat.le_refl _, K0, r2, Lib.hid rfl⟩
  case round =>
    clear K0 r2
    rename World => wr
    obtain ⟨k, L, hk, rfl, hL, K, rT, hF⟩ := hrel
    by_cases hlt : k < m
    · obtain ⟨b, off, who, rfl, hbl, hx, cx⟩ := rT.at_ hlt
      have hF2 := Lib.hid (show (L.map Vx.abs ++ [(who, fltV l who at_ (fun _ => false), idsV l who at_ (fltV l who at_ (fun _ => false)))]) = (TV.take (k + 1)).map (fun who => (who, fltV l who at_ (fun _ => false), idsV l who at_ (fltV l who at_ (fun _ => false)))) by rw [hst.out k who hx, hF.out])
      have hV1 := Lib.hid (hV.out who wr K.bel)
      clear hx hF
      generalize tmV l who at_ (fltV l who at_ (fun _ => false)) = tv at *
      generalize idsV l who at_ (fltV l who at_ (fun _ => false)) = iv at *
      generalize fltV l who at_ (fun _ => false) = fv at *
      go_wp2_with fail
      refine hV1.out.mono ?_; rintro e w5 ⟨A5, c5, rfl, r5, hcp, B5⟩
      have K5 := K.below B5
      have rT5 := rT.below B5
      have hn6 := heap_alloc_new w5 (.cells #[.string who, .int .i64 fv, .slice A5 iv.length c5] 69)
      have hBn := below_new w5 (.cells #[.string who, .int .i64 fv, .slice A5 iv.length c5] 69)
      have K6 := K5.below hBn
      have r6 := r5.below hBn
      have rT6 := rT5.below hBn
      have hz6 := K6.bel.size
      have y0 := (blk_facts hn6).1 0
      have y1 := (blk_facts hn6).1 1
      have y2 := (blk_facts hn6).1 2
      clear K K5 B5 rT rT5 hBn r5 hcp hV1 hn6 cx
      go_wp2_with (at_builtin; refine wpList_app rfl (.tmp 35) (.tmp 37) 63 rfl Tryz.underlying63 info_verdict rfl (by omega) (by omega) K6.o rfl rfl (by first | rfl | (simp; done)) rfl (by simp [Value.oneCell']) (by omega) hz6 ?_; intro v7 w7 hown7 hg7)
      have K7 := K6.app (x := ⟨who, fv, A5, c5, iv⟩) r6 hown7 hg7
      have rT7 := rT6.keep (T := 69) (by decide) (keep_own7 K6.o hg7)
      clear hown7 hg7 K6 r6 rT6
      go_roundw
      case rel => exact ⟨k + 1, _, by omega, by go_num, by rw [List.length_append]; simp; omega, K7, rT7, Lib.hid (by rw [List.map_append]; exact hF2.out)⟩
      case measure => simp [intOf]; omega
    · obtain rfl : k = m := by omega
      have hD9 : L.map Vx.abs = vdsV l at_ (fun _ _ => false) := by rw [hF.out, List.take_of_length_le (by rw [hm'.out]; exact Nat.le_refl _), hTd.out]
      have hD9' := Lib.hid hD9
      obtain ⟨A9, c9, rfl⟩ := own_shape K.o
      have hfin := K.fin rfl (by omega)
      have hbel := K.bel
      clear hF hD9 K
      go_wp2
      go_ret2
      exact ⟨A9, L.length, c9, L, rfl, hfin, by first | exact hD9'.out | (rw [if_pos rfl]; exact hD9'.out), hbel⟩
end Go.Proofs.YtpepdkgkdbnakaaGreatDoor
