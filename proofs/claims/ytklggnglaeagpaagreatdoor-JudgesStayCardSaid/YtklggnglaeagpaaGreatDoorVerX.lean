/- tumbref1.VerdictsOf, judge.Open, tumbref1.OpenOf. Printed by wip/genverx.py. -/
import Derived.Test.YtklggnglaeagpaaGreatDoorVerW
namespace Go.Proofs.YtklggnglaeagpaaGreatDoor
open Go.RowKit Go.Shelf Go.Lib Go.Sort
set_option linter.unusedVariables false

theorem VsK.fin2 {w wx : World} {L : List Vx} {A : Option Addr} {c : Nat} (h : VsK w (.slice A L.length c) L wx) (hb : L.length ≤ 140737488355328) : RVx wx A L.length L := ⟨RN.of_own vxE_len h.o rfl hb, h.r⟩
set_option maxHeartbeats 6400000 in
set_option maxRecDepth 100000 in
theorem verdictsOf_c (A : Option Addr) (n c : Nat) (l : List Rp) (at_ : Int) (w : World) (h : RRp w A n l) (hn : n ≤ 1000) (hw : ∀ x ∈ l, 1 ≤ x.wt) :
    Calls Tryz.prog 47 #[.slice A n c, .int .i64 at_] w (RetV1 w (vdsV l at_ (fun _ _ => false))) := by
  have hT := Lib.hid (toldR_c A n c l at_ w h (by omega))
  have hV := Lib.hid (fun who W (B : Below w.heap.size w W) => show Calls Tryz.prog 156 #[.slice A n c, .string who, .int .i64 at_, .slice none 0 0] W (RetVr W who (fltV l who at_ (fun _ => false)) (idsV l who at_ (fltV l who at_ (fun _ => false)))) from verdictOf_c A n c l who at_ none 0 0 [] W (h.below B) hn hw (R1.nil_ _ _ _ _))
  have hD := Lib.hid (show vdsV l at_ (fun _ _ => false) = (toldV l at_).map fun who => (who, fltV l who at_ (fun _ => false), idsV l who at_ (fltV l who at_ (fun _ => false))) from rfl)
  have hst := Lib.hid (fun k who h => vds_take (l := l) (at_ := at_) (gone := fun _ _ => false) (k := k) (who := who) h)
  have hTl := toldV_len l at_
  rw [h.len] at hTl
  generalize toldV l at_ = TV at *
  clear h hw
  go_enter Tryz.func47, Tryz.ntmps47
  go_wp2_with fail
  refine hT.out.mono ?_; rintro e w2 ⟨A2, c2, rfl, r2, B2⟩
  have K0 : VsK w (.slice none 0 0) [] w2 := VsK.start B2
  have hTd := Lib.hid (show TV.map (fun who => (who, fltV l who at_ (fun _ => false), idsV l who at_ (fltV l who at_ (fun _ => false)))) = vdsV l at_ (fun _ _ => false) from hD.out.symm)
  generalize hm : TV.length = m at *
  have hm' := Lib.hid hm
  clear hm hT B2 hD
  go_wp2_with fail
  go_loopw [5, 12] (fun u i wr => ∃ (k : Nat) (L : List Vx), k ≤ m ∧ i = .int .i64 k ∧ L.length ≤ k ∧ VsK w u L wr ∧ RS 9 wr A2 m TV ∧ Hid (L.map Vx.abs = (TV.take k).map (fun who => (who, fltV l who at_ (fun _ => false), idsV l who at_ (fltV l who at_ (fun _ => false)))))) (fun _ i _ => m - (intOf i).toNat)
  case atStart => exact ⟨0, [], Nat.zero_le _, rfl, Nat.le_refl _, K0, r2, Lib.hid rfl⟩
  case round =>
    clear K0 r2
    rename World => wr
    obtain ⟨k, L, hk, rfl, hL, K, rT, hF⟩ := hrel
    by_cases hlt : k < m
    · obtain ⟨b, off, who, rfl, hbl, hx, cx⟩ := rT.at_ hlt
      have hF2 := Lib.hid (show (L.map Vx.abs ++ [(who, fltV l who at_ (fun _ => false), idsV l who at_ (fltV l who at_ (fun _ => false)))]) = (TV.take (k + 1)).map (fun who => (who, fltV l who at_ (fun _ => false), idsV l who at_ (fltV l who at_ (fun _ => false)))) by rw [hst.out k who hx, hF.out])
      have hV1 := Lib.hid (hV.out who wr K.bel)
      clear hx hF
      generalize idsV l who at_ (fltV l who at_ (fun _ => false)) = iv at *
      generalize fltV l who at_ (fun _ => false) = fv at *
      go_wp2_with fail
      refine hV1.out.mono ?_; rintro e w5 ⟨A5, c5, rfl, r5, hcp, B5⟩
      have K6 := K.below B5
      have rT6 := rT.below B5
      have hz6 := K6.bel.size
      clear K B5 rT hcp hV1 cx
      go_wp2_with (at_builtin; refine wpList_app rfl (.tmp 16) (.tmp 21) 28 rfl Tryz.underlying28 info_verdict rfl (by omega) (by omega) K6.o rfl rfl (by first | rfl | (simp; done)) rfl (by simp [Value.oneCell']) (by omega) hz6 ?_; intro v7 w7 hown7 hg7)
      have K7 := K6.app (x := ⟨who, fv, A5, c5, iv⟩) r5 hown7 hg7
      have rT7 := rT6.keep (T := 99) (by decide) (keep_own7 K6.o hg7)
      clear hown7 hg7 K6 r5 rT6
      go_roundw
      case rel => exact ⟨k + 1, _, by omega, by go_num, by rw [List.length_append]; simp; omega, K7, rT7, Lib.hid (by rw [List.map_append]; exact hF2.out)⟩
      case measure => simp [intOf]; omega
    · obtain rfl : k = m := by omega
      have hD9 : L.map Vx.abs = vdsV l at_ (fun _ _ => false) := by rw [hF.out, List.take_of_length_le (by rw [hm'.out]; exact Nat.le_refl _), hTd.out]
      have hD9' := Lib.hid hD9
      obtain ⟨A9, c9, rfl⟩ := own_shape K.o
      have hfin := K.fin2 (by omega)
      have hbel := K.bel
      clear hF hD9 K
      go_wp2
      go_ret
      exact ⟨A9, L.length, c9, L, rfl, hfin, hD9'.out, hbel⟩
end Go.Proofs.YtklggnglaeagpaaGreatDoor
