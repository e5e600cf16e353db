import Derived.Test.YtamcmehmcbjgjaaGreatDoorBestR
import Derived.Test.YtamcmehmcbjgjaaGreatDoorSwumR
import Derived.Test.YtamcmehmcbjgjaaGreatDoorSplits2
import Derived.Test.YtamcmehmcbjgjaaGreatDoorSums9
import Derived.Test.YtamcmehmcbjgjaaGreatDoorDraws
import Derived.Test.YtamcmehmcbjgjaaGreatDoorReady4
import Derived.Deep.DeepCutAuto
/- The stream's fields. -/
namespace Go.Proofs.YtamcmehmcbjgjaaGreatDoor
open Go.RowKit
set_option linter.unusedVariables false

theorem info_swim : (Tryz.prog.info? 42).map (fun i => (i.zero, i.size, i.bytes)) = some (some (.agg #[.string ⟨#[]⟩, .slice none 0 0]), 2, 40) := by kernel_rfl
def kS (b : UInt8) : ByteArray := ⟨#[115, b]⟩
def keys4 : List ByteArray := [⟨#[115, 97]⟩, ⟨#[115, 98]⟩, ⟨#[115, 99]⟩, ⟨#[115, 100]⟩]
/-- some of the four names, in order, each with splits that the stream made -/
def RightF (zs : Zs) (r : Race) (l : List Sw) : Prop := (l.map Sw.who).Sublist keys4 ∧ ∀ x ∈ l, ∃ k', x.sp = knownSplits zs k' r
theorem blk_stream {w w' : World} {b g : Nat} {zs : Zs} {k : Nat} {t : TypeId} {cs : Array Value} (h : w.heap[b]? = some (.cells cs t (0, 0))) (hs : St w g zs k) (hg : w.grownBy w' (some g)) (hne : t ≠ 25) : w'.heap[b]? = some (.cells cs t (0, 0)) := (hs.keep hg) b cs t (0, 0) hne h
theorem own_lt_alloc {w w' : World} {base : Nat} {e : TypeId} {size n : Nat} {v : Value} {xs : List Value} (h : w.ownsRow base e size v n xs) : ∀ i, v.ownBlock = some i → i < w.heap.size := fun i hi => (h.lt i hi).2

def swD (x : Sw) : ByteArray × List Int := (x.who, x.sp)
/-- the field that the stream makes, as data, and where the stream stands then -/
def rfV (zs : Zs) (KS : Nat → List Int) (N : Nat) : List ByteArray → Nat → List (ByteArray × List Int) × Nat
  | [], k => ([], k)
  | s :: t, k => if (nextV zs k 3 == 0) = true then rfV zs KS N t (k + 1) else ((s, KS (k + 1)) :: (rfV zs KS N t (k + 1 + N)).1, (rfV zs KS N t (k + 1 + N)).2)
def RfV (zs : Zs) (r : Race) (k : Nat) (l : List Sw) (k' : Nat) : Prop := rfV zs (fun k' => knownSplits zs k' r) (2 * (lenV r).toNat) keys4 k = (l.map swD, k')
def rfI (zs : Zs) (KS : Nat → List Int) (N k j kk : Nat) (acc : List Sw) : Prop := rfV zs KS N keys4 k = (acc.map swD ++ (rfV zs KS N (keys4.drop j) kk).1, (rfV zs KS N (keys4.drop j) kk).2)
theorem rfI_skip {zs : Zs} {KS : Nat → List Int} {N k j kk : Nat} {acc : List Sw} {who : ByteArray} (h : rfI zs KS N k j kk acc) (hw : keys4.drop j = who :: keys4.drop (j + 1)) (hf : (nextV zs kk 3 == 0) = true) : rfI zs KS N k (j + 1) (kk + 1) acc := by
  unfold rfI at *
  rw [hw] at h
  rw [h]
  simp only [rfV, if_pos hf]
theorem rfI_take {zs : Zs} {KS : Nat → List Int} {N k j kk : Nat} {acc : List Sw} {who : ByteArray} {A : Option Addr} {n c : Nat} (h : rfI zs KS N k j kk acc) (hw : keys4.drop j = who :: keys4.drop (j + 1)) (hf : (nextV zs kk 3 == 0) = false) : rfI zs KS N k (j + 1) (kk + 1 + N) (acc ++ [⟨who, A, n, c, KS (kk + 1)⟩]) := by
  unfold rfI at *
  rw [hw] at h
  rw [h]
  simp only [rfV, hf, List.map_append]
  simp [swD]
set_option maxHeartbeats 3200000 in
set_option maxRecDepth 100000 in
theorem rightFieldV_c (g : Nat) (zs : Zs) (k : Nat) (r : Race) (w : World) (h : St w g zs k) (hk : k + 3000 ≤ 1099511627776) (hr : raceErr r = 0) :
    Calls Tryz.prog 19 #[.pointer (some ⟨g, 0, none⟩), r.val] w fun e w' => ∃ A n c l k', e = .returned (.slice A n c) ∧ w'.ownsRow w.heap.size 42 2 (.slice A n c) n (l.flatMap swE) ∧ l.length = n ∧ n ≤ 4 ∧ (∀ x ∈ l, RI 3 w' x.A x.n x.sp) ∧ RightF zs r l ∧ St w' g zs k' ∧ k' ≤ k + 2400 ∧ w.grownBy w' (some g) ∧ RfV zs r k l k' := by
  have hglt := h.lt
  have hlv := lenV_bd hr
  have hKs := Lib.hid (fun k' W h hk => (knownSplits_c g zs k' r W h hk hr))
  have hKl := Lib.hid (fun k' => show (knownSplits zs k' r).length = (lenV r).toNat from ks_length _ _ _)
  have hRF : Hid (∀ l, RightF zs r l ↔ (l.map Sw.who).Sublist keys4 ∧ ∀ x ∈ l, ∃ k', x.sp = knownSplits zs k' r) := Lib.hid (fun l => Iff.rfl)
  generalize RightF zs r = RF at *
  obtain ⟨KS, hKS⟩ : ∃ KS : Nat → List Int, KS = fun k' => knownSplits zs k' r := ⟨_, rfl⟩
  have hKS' := Lib.hid hKS
  have hKs2 := hKs.out
  have hKl2 := hKl.out
  simp only [show ∀ k', knownSplits zs k' r = KS k' from fun k' => by rw [hKS]] at hKs2 hKl2
  have hKs3 := Lib.hid hKs2
  have hKl3 := Lib.hid hKl2
  clear hKs hKl hKs2 hKl2
  have hRV : Hid (∀ l k', RfV zs r k l k' ↔ rfV zs KS (2 * (lenV r).toNat) keys4 k = (l.map swD, k')) := Lib.hid (fun l k' => by rw [hKS]; exact Iff.rfl)
  have hI0 : Hid (rfI zs KS (2 * (lenV r).toNat) k 0 k []) := Lib.hid rfl
  generalize RfV zs r k = RV at *
  clear hKS
  generalize lenV r = LV at *
  obtain ⟨key, metres, stroke, course, legs, sex, young, old⟩ := r
  dsimp only [Race.val, Race.cells] at *
  have hb0 := heap_alloc_new w (.cells #[.string key, .int .i64 metres, .int .i64 stroke, .int .i64 course, .int .i64 legs, .int .i64 sex, .int .i64 young, .int .i64 old] 27)
  have hb1 := blk_alloc hb0 (.cells #[.string ⟨#[115, 97]⟩, .string ⟨#[115, 98]⟩, .string ⟨#[115, 99]⟩, .string ⟨#[115, 100]⟩] 9)
  have hl1 := heap_alloc_new (w.alloc (.cells #[.string key, .int .i64 metres, .int .i64 stroke, .int .i64 course, .int .i64 legs, .int .i64 sex, .int .i64 young, .int .i64 old] 27)) (.cells #[.string ⟨#[115, 97]⟩, .string ⟨#[115, 98]⟩, .string ⟨#[115, 99]⟩, .string ⟨#[115, 100]⟩] 9)
  have s1 := (h.alloc (.cells #[.string key, .int .i64 metres, .int .i64 stroke, .int .i64 course, .int .i64 legs, .int .i64 sex, .int .i64 young, .int .i64 old] 27)).alloc (.cells #[.string ⟨#[115, 97]⟩, .string ⟨#[115, 98]⟩, .string ⟨#[115, 99]⟩, .string ⟨#[115, 100]⟩] 9)
  have g1 := grown_alloc (grown_alloc (grown_refl w (some g)) (.cells #[.string key, .int .i64 metres, .int .i64 stroke, .int .i64 course, .int .i64 legs, .int .i64 sex, .int .i64 young, .int .i64 old] 27)) (.cells #[.string ⟨#[115, 97]⟩, .string ⟨#[115, 98]⟩, .string ⟨#[115, 99]⟩, .string ⟨#[115, 100]⟩] 9)
  simp only [World.size_alloc] at hl1
  clear h hb0
  go_enter Tryz.func19, Tryz.ntmps19
  go_wp2_with fail
  generalize (w.alloc (.cells #[.string key, .int .i64 metres, .int .i64 stroke, .int .i64 course, .int .i64 legs, .int .i64 sex, .int .i64 young, .int .i64 old] 27)).alloc (.cells #[.string ⟨#[115, 97]⟩, .string ⟨#[115, 98]⟩, .string ⟨#[115, 99]⟩, .string ⟨#[115, 100]⟩] 9) = w1 at *
  go_loopw [5, 10] (fun out i wr => ∃ (j m kk : Nat) (acc : List Sw), j ≤ 4 ∧ i = .int .i64 j ∧ m ≤ j ∧ kk ≤ k + 600 * j ∧ acc.length = m ∧ wr.ownsRow w.heap.size 42 2 out m (acc.flatMap swE) ∧ (∀ x ∈ acc, RI 3 wr x.A x.n x.sp) ∧ Hid ((acc.map Sw.who).Sublist (keys4.take j) ∧ ∀ x ∈ acc, ∃ k', x.sp = KS k') ∧ Hid (rfI zs KS (2 * LV.toNat) k j kk acc) ∧ St wr g zs kk ∧ w.grownBy wr (some g) ∧ wr.heap[w.heap.size]? = some (.cells #[.string key, .int .i64 metres, .int .i64 stroke, .int .i64 course, .int .i64 legs, .int .i64 sex, .int .i64 young, .int .i64 old] 27 (0, 0)) ∧ wr.heap[w.heap.size + 1]? = some (.cells #[.string ⟨#[115, 97]⟩, .string ⟨#[115, 98]⟩, .string ⟨#[115, 99]⟩, .string ⟨#[115, 100]⟩] 9 (0, 0))) (fun _ i _ => 4 - (intOf i).toNat)
  case atStart => exact ⟨0, 0, k, [], by omega, rfl, by omega, by omega, rfl, World.ownsRow_nil _ _ _ _, (fun x hx => by simp at hx), Lib.hid ⟨by simp, (fun x hx => by simp at hx)⟩, hI0, s1, g1, hb1, hl1⟩
  case round =>
    obtain ⟨j, m, kk, acc, hj, rfl, hm, hkk, hl, hown, hri, hrf, hrv, hst, hgr, hb, hls⟩ := hrel
    have hl' := Lib.hid hl
    have hri' := Lib.hid hri
    clear hl hri s1 g1 hb1 hl1
    by_cases hlt : j < 4
    · obtain ⟨who, hwho, hwk, hwd⟩ : ∃ who : ByteArray, (#[.string ⟨#[115, 97]⟩, .string ⟨#[115, 98]⟩, .string ⟨#[115, 99]⟩, .string ⟨#[115, 100]⟩] : Array Value)[j]? = some (.string who) ∧ keys4.take (j + 1) = keys4.take j ++ [who] ∧ keys4.drop j = who :: keys4.drop (j + 1) := by
        rcases (show j = 0 ∨ j = 1 ∨ j = 2 ∨ j = 3 by omega) with rfl | rfl | rfl | rfl
        · exact ⟨_, rfl, rfl, rfl⟩
        · exact ⟨_, rfl, rfl, rfl⟩
        · exact ⟨_, rfl, rfl, rfl⟩
        · exact ⟨_, rfl, rfl, rfl⟩
      have zj : wr.cell? ⟨w.heap.size + 1, j, none⟩ = some (.string who) := by rw [(blk_facts hls).1 j, hwho]
      have hwk' := Lib.hid hwk
      have hsk := Lib.hid (fun h => rfI_skip hrv.out hwd h)
      have htk := Lib.hid (fun A n c h => rfI_take (A := A) (n := n) (c := c) hrv.out hwd h)
      clear hwho hwk hwd hrv
      go_wp2_with fail
      refine (flip_c g zs _ _ _ hst (by omega) (by omega) (by omega)).mono ?_; rintro e w2 ⟨rfl, s2, g2⟩
      generalize (nextV zs kk 3 == 0) = fl at *
      have hgr2 := grown_trans hgr g2
      have hown2 := own_keep hown hglt g2
      have hb2 := blk_stream hb hst g2 (by decide)
      have hls2 := blk_stream hls hst g2 (by decide)
      have hri2 := Lib.hid (fun x (hx : x ∈ acc) => (hri'.out x hx).keep (T := 25) (by decide) (hst.keep g2))
      clear hst g2 hown hgr hb hls hri' zj
      cases fl
      rotate_left
      · have hq := Lib.hid (show (acc.map Sw.who).Sublist (keys4.take (j + 1)) by rw [hwk'.out]; exact hrf.out.1.trans (List.sublist_append_left _ _))
        go_wp2
        go_roundw
        case rel => exact ⟨j + 1, m, kk + 1, acc, by omega, by go_num, by omega, by omega, hl'.out, hown2, hri2.out, Lib.hid ⟨hq.out, hrf.out.2⟩, Lib.hid (hsk.out (by first | rfl | trivial)), s2, hgr2, hb2, hls2⟩
        case measure => simp [intOf]; omega
      · have zr := (blk_facts hb2).1
        go_wp2_with fail
        refine (hKs3.out _ _ s2 (by omega)).mono ?_; rintro e w3 ⟨A3, n3, c3, rfl, hown3', s3, g3⟩
        have hn3 : n3 ≤ 240 := by
          have h1 := hown3'.1
          rw [ints_len, hKl3.out] at h1
          omega
        have hr3 : RI 3 w3 A3 n3 (KS (kk + 1)) := R1.of_own hown3' (by omega)
        have hgr3 := grown_trans hgr2 g3
        have hown3 := own_keep hown2 hglt g3
        have hb3 := blk_stream hb2 s2 g3 (by decide)
        have hls3 := blk_stream hls2 s2 g3 (by decide)
        have hri3 := Lib.hid (fun x (hx : x ∈ acc) => (hri2.out x hx).keep (T := 25) (by decide) (s2.keep g3))
        have hz3 := hgr3.size
        clear s2 g3 hgr2 hown2 hb2 hls2 hri2 hown3' zr
        go_wp2_with (at_builtin; refine wpList_app rfl (.tmp 17) (.tmp 23) 28 rfl Tryz.underlying28 info_swim rfl (by omega) (by omega) hown3 rfl rfl (by first | rfl | (simp; done)) rfl (by simp [Value.oneCell']) (by omega) hz3 ?_; intro v4 w4 hown4 hg4)
        have hgr4 := grown_own hgr3 hg4 (own_row_lt hown3)
        have hst4 := s3.grown hg4 (fun i hi => by have := own_row_lt hown3 i hi; omega)
        have hK4 := keep_of_app hown3 hg4
        have hq := Lib.hid (show (((acc ++ [(⟨who, A3, n3, c3, KS (kk + 1)⟩ : Sw)]).map Sw.who).Sublist (keys4.take (j + 1)) ∧ ∀ x ∈ acc ++ [(⟨who, A3, n3, c3, KS (kk + 1)⟩ : Sw)], ∃ k', x.sp = KS k') from ⟨by
          rw [List.map_append, hwk'.out]; exact hrf.out.1.append (List.Sublist.refl _), fun x hx => by
          rcases List.mem_append.mp hx with hx | hx
          · exact hrf.out.2 x hx
          · obtain rfl := List.mem_singleton.mp hx; exact ⟨_, rfl⟩⟩)
        have hri4 := Lib.hid (show ∀ x ∈ acc ++ [(⟨who, A3, n3, c3, KS (kk + 1)⟩ : Sw)], RI 3 w4 x.A x.n x.sp from fun x hx => by
          rcases List.mem_append.mp hx with hx | hx
          · exact (hri3.out x hx).keep (T := 42) (by decide) hK4
          · obtain rfl := List.mem_singleton.mp hx; exact hr3.keep (T := 42) (by decide) hK4)
        go_roundw
        case rel => exact ⟨j + 1, m + 1, kk + 1 + 2 * LV.toNat, acc ++ [(⟨who, A3, n3, c3, KS (kk + 1)⟩ : Sw)], by omega, by go_num, by omega, by omega, by rw [List.length_append, hl'.out]; rfl, by rw [← flat_snoc]; exact hown4, hri4.out, hq, Lib.hid (htk.out _ _ _ (by first | rfl | trivial)), hst4, hgr4, hK4 _ _ _ _ (by decide) hb3, hK4 _ _ _ _ (by decide) hls3⟩
        case measure => simp [intOf]; omega
    · obtain rfl : j = 4 := by omega
      obtain ⟨A', c', rfl⟩ := own_shape hown
      go_wp2
      go_ret
      refine ⟨A', m, c', acc, kk, rfl, hown, hl'.out, by omega, hri'.out, ?_, hst, by omega, hgr, ?_⟩
      rotate_left
      · rw [hRV.out]
        have h9 : rfV zs KS (2 * LV.toNat) keys4 k = _ := hrv.out
        rw [h9]
        simp [rfV, keys4]
      rw [hRF.out]
      refine ⟨hrf.out.1, fun x hx => ?_⟩
      obtain ⟨k', hx'⟩ := hrf.out.2 x hx
      exact ⟨k', by rw [hx', hKS'.out]⟩
theorem rightField_c (g : Nat) (zs : Zs) (k : Nat) (r : Race) (w : World) (h : St w g zs k) (hk : k + 3000 ≤ 1099511627776) (hr : raceErr r = 0) :
    Calls Tryz.prog 19 #[.pointer (some ⟨g, 0, none⟩), r.val] w fun e w' => ∃ A n c l k', e = .returned (.slice A n c) ∧ w'.ownsRow w.heap.size 42 2 (.slice A n c) n (l.flatMap swE) ∧ l.length = n ∧ n ≤ 4 ∧ (∀ x ∈ l, RI 3 w' x.A x.n x.sp) ∧ RightF zs r l ∧ St w' g zs k' ∧ k' ≤ k + 2400 ∧ w.grownBy w' (some g) :=
  (rightFieldV_c g zs k r w h hk hr).mono fun _ _ ⟨A, n, c, l, k', a1, a2, a3, a4, a5, a6, a7, a8, a9, _⟩ => ⟨A, n, c, l, k', a1, a2, a3, a4, a5, a6, a7, a8, a9⟩
end Go.Proofs.YtamcmehmcbjgjaaGreatDoor

/- The stream's fields, nearly always right ones. -/
namespace Go.Proofs.YtamcmehmcbjgjaaGreatDoor
open Go.RowKit
set_option linter.unusedVariables false

theorem sw_set : ∀ (l : List Sw) (k : Nat) (who : ByteArray) (x : Sw), l[k]? = some x →
    (l.flatMap swE).set (k * 2) (.string who) = (l.set k ⟨who, x.A, x.n, x.c, x.sp⟩).flatMap swE
  | [], _, _, _, h => by simp at h
  | x :: l, 0, who, t, h => by
    obtain rfl : x = t := by simpa using h
    simp [swE]
  | x :: l, k + 1, who, t, h => by
    rw [List.set_cons_succ, List.flatMap_cons, List.flatMap_cons, ← sw_set l k who t (by simpa using h), List.set_append_right _ _ (by show 2 ≤ _; omega)]
    congr 2
    show (k + 1) * 2 - 2 = _; omega
theorem sw_set1 : ∀ (l : List Sw) (k : Nat) (A : Option Addr) (n c : Nat) (sp : List Int) (x : Sw), l[k]? = some x →
    (l.flatMap swE).set (k * 2 + 1) (.slice A n c) = (l.set k ⟨x.who, A, n, c, sp⟩).flatMap swE
  | [], _, _, _, _, _, _, h => by simp at h
  | x :: l, 0, A, n, c, sp, t, h => by
    obtain rfl : x = t := by simpa using h
    simp [swE]
  | x :: l, k + 1, A, n, c, sp, t, h => by
    rw [List.set_cons_succ, List.flatMap_cons, List.flatMap_cons, ← sw_set1 l k A n c sp t (by simpa using h), List.set_append_right _ _ (by show 2 ≤ _; omega)]
    congr 2
    show (k + 1) * 2 + 1 - 2 = _; omega
theorem RSw.of_own {w : World} {base n c : Nat} {A : Option Addr} {l : List Sw} (h : w.ownsRow base 42 2 (.slice A n c) n (l.flatMap swE)) (hl : l.length = n) (hn : n ≤ 1000) (hr : ∀ x ∈ l, RI 3 w x.A x.n x.sp) : RSw w A n l := ⟨RN.of_own swE_len h hl (by omega), hr⟩
set_option maxHeartbeats 3200000 in
set_option maxRecDepth 100000 in
theorem field_c (g : Nat) (zs : Zs) (k : Nat) (r : Race) (w : World) (h : St w g zs k) (hk : k + 5000 ≤ 1099511627776) (hr : raceErr r = 0) :
    Calls Tryz.prog 41 #[.pointer (some ⟨g, 0, none⟩), r.val] w fun e w' => ∃ A n c l k', e = .returned (.slice A n c) ∧ RSw w' A n l ∧ n ≤ 4 ∧ St w' g zs k' ∧ k' ≤ k + 4000 ∧ w.grownBy w' (some g) := by
  have hglt := h.lt
  have hRf := Lib.hid (fun W h hk => rightField_c g zs k r W h hk hr)
  have hSp := Lib.hid (fun k' W h hk => splits_c g zs k' r W h hk hr)
  generalize RightF zs r = RF at *
  obtain ⟨key, metres, stroke, course, legs, sex, young, old⟩ := r
  dsimp only [Race.val, Race.cells] at *
  have hb := heap_alloc_new w (.cells #[.string key, .int .i64 metres, .int .i64 stroke, .int .i64 course, .int .i64 legs, .int .i64 sex, .int .i64 young, .int .i64 old] 27)
  have s1 := h.alloc (.cells #[.string key, .int .i64 metres, .int .i64 stroke, .int .i64 course, .int .i64 legs, .int .i64 sex, .int .i64 young, .int .i64 old] 27)
  have g1 := grown_alloc (grown_refl w (some g)) (.cells #[.string key, .int .i64 metres, .int .i64 stroke, .int .i64 course, .int .i64 legs, .int .i64 sex, .int .i64 young, .int .i64 old] 27)
  clear h
  go_enter Tryz.func41, Tryz.ntmps41
  go_wp2_with fail
  refine (hRf.out _ s1 (by omega)).mono ?_; rintro e w2 ⟨A, n, c, l, k2, rfl, hown, hl, hn, hri, _, s2, hk2, g2⟩
  have hgr2 := grown_trans g1 g2
  have hb2 := blk_stream hb s1 g2 (by decide)
  have hown2 := own_mono hown (base' := w.heap.size) (by simp)
  have hl' := Lib.hid hl
  have hri' := Lib.hid hri
  clear hl hri s1 g1 g2 hb hown
  by_cases hn0 : n = 0
  · subst hn0
    go_wp2
    go_ret
    exact ⟨A, 0, c, l, k2, rfl, RSw.of_own hown2 hl'.out (by omega) hri'.out, by omega, s2, by omega, hgr2⟩
  have hnp : 0 < n := by omega
  go_wp2_with fail
  refine (flipE_c g zs _ _ _ s2 (by omega) (by omega) (by omega)).mono ?_; rintro e w3 ⟨fl, rfl, s3, g3⟩
  have hgr3 := grown_trans hgr2 g3
  have hown3 := own_keep hown2 hglt g3
  have hb3 := blk_stream hb2 s2 g3 (by decide)
  have hri3 := Lib.hid (fun x (hx : x ∈ l) => (hri'.out x hx).keep (T := 25) (by decide) (s2.keep g3))
  clear s2 g3 hgr2 hown2 hb2 hri'
  cases fl
  · go_wp2
    go_ret
    exact ⟨A, n, c, l, _, rfl, RSw.of_own hown3 hl'.out (by omega) hri3.out, hn, s3, by omega, hgr3⟩
  go_wp2_with fail
  refine (nextE_c g zs _ _ _ s3 (by omega) (by omega) (by omega)).mono ?_; rintro e w4 ⟨v, rfl, hv0, hv1, s4, g4⟩
  obtain ⟨nv, rfl⟩ := Int.eq_ofNat_of_zero_le hv0
  have hgr4 := grown_trans hgr3 g4
  have hown4 := own_keep hown3 hglt g4
  have hb4 := blk_stream hb3 s3 g4 (by decide)
  have hri4 := Lib.hid (fun x (hx : x ∈ l) => (hri3.out x hx).keep (T := 25) (by decide) (s3.keep g4))
  clear s3 g4 hgr3 hown3 hb3 hri3
  obtain ⟨b, rfl, hbb⟩ := own_someN hown4 hnp
  have hcj := own_capN hown4
  have hnv : nv < n := by omega
  obtain ⟨x, hx⟩ := at_of_lt (l := l) (k := nv) (by rw [hl'.out]; exact hnv)
  have hx' := Lib.hid hx
  have c0 : w4.cell? ⟨b, nv * 2, none⟩ = some (.string x.who) := by rw [hown4.cellAt _ (by omega)]; exact flat_at swE_len l nv x 0 _ hx rfl
  have lb := (hown4.lt b rfl).2
  clear hx
  go_wp2_with fail
  refine (someE_c g zs _ [x.who, ⟨#[]⟩, ⟨#[115, 97]⟩] _ _ _ _ _ s4 (by omega) rfl (by simp) rfl (by simp) (by simp)).mono ?_; rintro e w5 ⟨who, rfl, _, s5, g5⟩
  have hgr5 := grown_trans hgr4 g5
  have hown5 := own_keep hown4 hglt g5
  have hb5 := blk_stream hb4 s4 g5 (by decide)
  have hri5 := Lib.hid (fun x (hx : x ∈ l) => (hri4.out x hx).keep (T := 25) (by decide) (s4.keep g5))
  clear s4 g5 hgr4 hown4 hb4 hri4 c0
  have c0 : w5.cell? ⟨b, nv * 2, none⟩ = some (.string x.who) := by rw [hown5.cellAt _ (by omega)]; exact flat_at swE_len l nv x 0 _ hx'.out rfl
  have f0 := hown5.frozenAt
  have hst6 := hown5.stored (nv * 2) (.string who)
  have hgr6 := grown_own hgr5 hst6.2 (fun i hi => by injection hi with hi; omega)
  have s6 := s5.setOther (p := ⟨b, nv * 2, none⟩) (show g < b by omega) (.string who)
  have hK6 : Keep 42 w5 (w5.setCell ⟨b, nv * 2, none⟩ (.string who)) := keep_of_app hown5 hst6.2
  have hb6 := hK6 _ _ _ _ (by decide) hb5
  have hri6 := Lib.hid (fun x (hx : x ∈ l) => (hri5.out x hx).keep (T := 42) (by decide) hK6)
  have hown6 : (w5.setCell ⟨b, nv * 2, none⟩ (.string who)).ownsRow w.heap.size 42 2 (.slice (some ⟨b, 0, none⟩) n c) n ((l.set nv ⟨who, x.A, x.n, x.c, x.sp⟩).flatMap swE) := by rw [← sw_set l nv who x hx'.out]; exact hst6.1
  have hxl : x ∈ l := List.mem_of_getElem? hx'.out
  have hrix := hri6.out x hxl
  have hri6' := Lib.hid (show ∀ y ∈ l.set nv ⟨who, x.A, x.n, x.c, x.sp⟩, RI 3 (w5.setCell ⟨b, nv * 2, none⟩ (.string who)) y.A y.n y.sp from fun y hy => by
    rcases List.mem_or_eq_of_mem_set hy with hy | hy
    · exact hri6.out y hy
    · subst hy; exact hrix)
  have hl6 := Lib.hid (show (l.set nv (⟨who, x.A, x.n, x.c, x.sp⟩ : Sw)).length = n by rw [List.length_set]; exact hl'.out)
  have hat := Lib.hid (show (l.set nv (⟨who, x.A, x.n, x.c, x.sp⟩ : Sw))[nv]? = some ⟨who, x.A, x.n, x.c, x.sp⟩ by rw [List.getElem?_set_self (by rw [hl'.out]; exact hnv)])
  have H := Lib.hid (And.intro s6 (And.intro hgr6 (And.intro hb6 hown6)))
  generalize l.set nv ⟨who, x.A, x.n, x.c, x.sp⟩ = l6 at *
  clear hst6 hgr6 s6 hK6 hb6 hri6 hown6 hrix hown5 hgr5 hb5 hri5 s5
  go_upto_region 5 with (fail)
  obtain ⟨s6, hgr6, hb6, hown6⟩ := H.out
  clear H c0 f0
  generalize w5.setCell ⟨b, nv * 2, none⟩ (.string who) = w6 at *
  have zr := (blk_facts hb6).1
  go_wp2_with fail
  refine (hSp.out _ _ s6 (by omega)).mono ?_; rintro e w7 ⟨A7, n7, c7, sp7, k7, rfl, hown7s, s7, hk7, g7, hn7⟩
  have hr7 : RI 3 w7 A7 n7 sp7 := R1.of_own hown7s (by omega)
  have hgr7 := grown_trans hgr6 g7
  have hown7 := own_keep hown6 hglt g7
  have hri7 := Lib.hid (fun x (hx : x ∈ l6) => (hri6'.out x hx).keep (T := 25) (by decide) (s6.keep g7))
  clear s6 g7 hgr6 hown6 hb6 zr hown7s
  have hst8 := hown7.stored (nv * 2 + 1) (.slice A7 n7 c7)
  have c1 : w7.cell? ⟨b, nv * 2 + 1, none⟩ = some (.slice x.A x.n x.c) := by rw [hown7.cellAt _ (by omega)]; exact flat_at swE_len l6 nv _ 1 _ hat.out rfl
  have f1 := hown7.frozenAt
  have hgr8 := grown_own hgr7 hst8.2 (fun i hi => by injection hi with hi; omega)
  have s8 := s7.setOther (p := ⟨b, nv * 2 + 1, none⟩) (show g < b by omega) (.slice A7 n7 c7)
  have hK8 : Keep 42 w7 (w7.setCell ⟨b, nv * 2 + 1, none⟩ (.slice A7 n7 c7)) := keep_of_app hown7 hst8.2
  have hown8 : (w7.setCell ⟨b, nv * 2 + 1, none⟩ (.slice A7 n7 c7)).ownsRow w.heap.size 42 2 (.slice (some ⟨b, 0, none⟩) n c) n ((l6.set nv ⟨who, A7, n7, c7, sp7⟩).flatMap swE) := by rw [← sw_set1 l6 nv A7 n7 c7 sp7 _ hat.out]; exact hst8.1
  have hR8 : RSw (w7.setCell ⟨b, nv * 2 + 1, none⟩ (.slice A7 n7 c7)) (some ⟨b, 0, none⟩) n (l6.set nv ⟨who, A7, n7, c7, sp7⟩) := RSw.of_own hown8 (by rw [List.length_set]; exact hl6.out) (by omega) (fun y hy => by
    rcases List.mem_or_eq_of_mem_set hy with hy | hy
    · exact (hri7.out y hy).keep (T := 42) (by decide) hK8
    · subst hy; exact hr7.keep (T := 42) (by decide) hK8)
  have H := Lib.hid (And.intro hR8 (And.intro s8 hgr8))
  clear hst8 hgr8 s8 hK8 hown8 hR8 hown7 hgr7 hri7 s7
  go_wp2
  go_ret
  exact ⟨_, n, c, _, k7, rfl, H.out.1, hn, H.out.2.1, by omega, H.out.2.2⟩
end Go.Proofs.YtamcmehmcbjgjaaGreatDoor

/- A race and a field, with the error of both. -/
namespace Go.Proofs.YtamcmehmcbjgjaaGreatDoor
open Go.RowKit
set_option linter.unusedVariables false

theorem keep_set {T : TypeId} {w : World} {b : Nat} {cs : Array Value} (h : w.heap[b]? = some (.cells cs T (0, 0))) (i : Nat) (v : Value) : Keep T w (w.setCell ⟨b, i, none⟩ v) := Keep.of_grown h (grown_setCell (grown_refl w _) (.inl rfl) v)
theorem keep_set8 {T : TypeId} {w : World} {b : Nat} {cs : Array Value} (h : w.heap[b]? = some (.cells cs T (0, 0))) (v0 v1 v2 v3 v4 v5 v6 v7 : Value) : Keep T w ((((((((w.setCell ⟨b, 0, none⟩ v0).setCell ⟨b, 1, none⟩ v1).setCell ⟨b, 2, none⟩ v2).setCell ⟨b, 3, none⟩ v3).setCell ⟨b, 4, none⟩ v4).setCell ⟨b, 5, none⟩ v5).setCell ⟨b, 6, none⟩ v6).setCell ⟨b, 7, none⟩ v7) :=
  (((((((keep_set h 0 v0).trans (keep_set (blk_set h 0 v0) 1 v1)).trans (keep_set (blk_set (blk_set h 0 v0) 1 v1) 2 v2)).trans (keep_set (blk_set (blk_set (blk_set h 0 v0) 1 v1) 2 v2) 3 v3)).trans (keep_set (blk_set (blk_set (blk_set (blk_set h 0 v0) 1 v1) 2 v2) 3 v3) 4 v4)).trans (keep_set (blk_set (blk_set (blk_set (blk_set (blk_set h 0 v0) 1 v1) 2 v2) 3 v3) 4 v4) 5 v5)).trans (keep_set (blk_set (blk_set (blk_set (blk_set (blk_set (blk_set h 0 v0) 1 v1) 2 v2) 3 v3) 4 v4) 5 v5) 6 v6)).trans (keep_set (blk_set (blk_set (blk_set (blk_set (blk_set (blk_set (blk_set h 0 v0) 1 v1) 2 v2) 3 v3) 4 v4) 5 v5) 6 v6) 7 v7)
theorem blk_other8 {w : World} {b b' : Nat} {o : Obj} (h : w.heap[b']? = some o) (hne : b' ≠ b) (v0 v1 v2 v3 v4 v5 v6 v7 : Value) : ((((((((w.setCell ⟨b, 0, none⟩ v0).setCell ⟨b, 1, none⟩ v1).setCell ⟨b, 2, none⟩ v2).setCell ⟨b, 3, none⟩ v3).setCell ⟨b, 4, none⟩ v4).setCell ⟨b, 5, none⟩ v5).setCell ⟨b, 6, none⟩ v6).setCell ⟨b, 7, none⟩ v7).heap[b']? = some o := (blk_other (blk_other (blk_other (blk_other (blk_other (blk_other (blk_other (blk_other h (p := ⟨b, 0, none⟩) hne v0) (p := ⟨b, 1, none⟩) hne v1) (p := ⟨b, 2, none⟩) hne v2) (p := ⟨b, 3, none⟩) hne v3) (p := ⟨b, 4, none⟩) hne v4) (p := ⟨b, 5, none⟩) hne v5) (p := ⟨b, 6, none⟩) hne v6) (p := ⟨b, 7, none⟩) hne v7)
theorem blk_set8 {T : TypeId} {w : World} {b : Nat} {u0 u1 u2 u3 u4 u5 u6 u7 : Value} (h : w.heap[b]? = some (.cells #[u0, u1, u2, u3, u4, u5, u6, u7] T (0, 0))) (v0 v1 v2 v3 v4 v5 v6 v7 : Value) : ((((((((w.setCell ⟨b, 0, none⟩ v0).setCell ⟨b, 1, none⟩ v1).setCell ⟨b, 2, none⟩ v2).setCell ⟨b, 3, none⟩ v3).setCell ⟨b, 4, none⟩ v4).setCell ⟨b, 5, none⟩ v5).setCell ⟨b, 6, none⟩ v6).setCell ⟨b, 7, none⟩ v7).heap[b]? = some (.cells #[v0, v1, v2, v3, v4, v5, v6, v7] T (0, 0)) := by
  have h8 := (blk_set (blk_set (blk_set (blk_set (blk_set (blk_set (blk_set (blk_set h 0 v0) 1 v1) 2 v2) 3 v3) 4 v4) 5 v5) 6 v6) 7 v7)
  simpa using h8
theorem fieldErr_race {r : Race} (l : List Sw) (h : raceErr r ≠ 0) : fieldErr r l = raceErr r := if_pos h
set_option maxHeartbeats 6400000 in
set_option maxRecDepth 100000 in
theorem fielded_c (g : Nat) (zs : Zs) (k : Nat) (w : World) (h : St w g zs k) (hk : k + 6000 ≤ 1099511627776) :
    Calls Tryz.prog 8 #[.pointer (some ⟨g, 0, none⟩)] w fun e w' => ∃ (r : Race) (A : Option Addr) (n c : Nat) (l : List Sw) (k' : Nat), e = .returned (.tuple #[r.val, .slice A n c, .int .i64 (fieldErr r l)]) ∧ RSw w' A n l ∧ n ≤ 4 ∧ St w' g zs k' ∧ k' ≤ k + 5000 ∧ w.grownBy w' (some g) := by
  have hglt := h.lt
  have hK0 := heap_alloc_new w (.cells raceZero 27)
  have s0 := h.alloc (.cells raceZero 27)
  have g0 := grown_alloc (grown_refl w (some g)) (.cells raceZero 27)
  unfold raceZero at hK0 s0 g0
  clear h
  go_enter Tryz.func8, Tryz.ntmps8
  go_wp2_with fail
  refine (swumRace_c g zs _ _ s0 (by omega)).mono ?_; rintro e w1 ⟨rfl, s1, g1⟩
  have hk1 := swumRace_k zs k
  have hgr1 := grown_trans g0 g1
  have hK1 := blk_stream hK0 s0 g1 (by decide)
  generalize (swumRace zs k).1 = r at *
  generalize (swumRace zs k).2 = k1 at *
  clear s0 g0 g1 hK0
  have hRf := Lib.hid (fun W => raceFault_c r W)
  have hFd := Lib.hid (fun W h hk h0 => field_c g zs k1 r W h hk h0)
  have hFf := Lib.hid (fun A n c l W h h0 => fieldFault_c r A n c l W h h0)
  have hEr := Lib.hid (fun l => fieldErr_race (r := r) l)
  generalize hFE : fieldErr r = FE at *
  generalize raceErr r = RE at *
  obtain ⟨key, metres, stroke, course, legs, sex, young, old⟩ := r
  have hFE' := Lib.hid hFE
  clear hFE
  dsimp only [Race.val, Race.cells] at *
  have hb1 := heap_alloc_new w1 (.cells #[.string key, .int .i64 metres, .int .i64 stroke, .int .i64 course, .int .i64 legs, .int .i64 sex, .int .i64 young, .int .i64 old] 27)
  have s2 := s1.alloc (.cells #[.string key, .int .i64 metres, .int .i64 stroke, .int .i64 course, .int .i64 legs, .int .i64 sex, .int .i64 young, .int .i64 old] 27)
  have hgr2 := grown_alloc hgr1 (.cells #[.string key, .int .i64 metres, .int .i64 stroke, .int .i64 course, .int .i64 legs, .int .i64 sex, .int .i64 young, .int .i64 old] 27)
  have hK2 := blk_alloc hK1 (.cells #[.string key, .int .i64 metres, .int .i64 stroke, .int .i64 course, .int .i64 legs, .int .i64 sex, .int .i64 young, .int .i64 old] 27)
  have lK := lt_of_heap hK1
  clear s1 hgr1 hK1
  go_wp2_with fail
  refine (hRf.out _).mono ?_; rintro e w2 ⟨rfl, B2⟩
  have s3 := s2.below B2
  have hgr3 := grown_trans hgr2 (grown_of_below B2)
  have hK3 := blk_below hK2 B2
  have hb3 := blk_below hb1 B2
  have lK3 := lt_of_heap hK3
  clear s2 hgr2 hK2 hb1 B2
  by_cases hre : RE = 0
  rotate_left
  · have ht : (RE != 0) = true := by simpa using hre
    have hR := Lib.hid (hEr.out [] hre)
    clear hre
    obtain ⟨zb, yb⟩ := blk_facts hb3
    obtain ⟨zK, yK⟩ := blk_facts hK3
    go_wp2
    refine bodyPost_ret (v := .tuple #[.agg #[.string key, .int .i64 metres, .int .i64 stroke, .int .i64 course, .int .i64 legs, .int .i64 sex, .int .i64 young, .int .i64 old], .slice none 0 0, .int .i64 RE]) (by simp [results, Tryz.results8, go_sem, zK]) rfl ⟨⟨key, metres, stroke, course, legs, sex, young, old⟩, none, 0, 0, [], k1, by rw [hFE'.out, hR.out]; rfl, RSw.nil_ _, by omega, ?_, by omega, ?_⟩
    · repeat (with_reducible refine St.setAt ?_ (by assumption) _)
      exact s3
    · repeat (with_reducible refine grown_setAt ?_ (Nat.le_refl _) _)
      exact hgr3
  · generalize hb5d : w1.heap.size = b5 at *
    have hFd2 := Lib.hid (fun W h hk => hFd.out W h hk hre)
    have hFf2 := Lib.hid (fun A n c l W h => hFf.out A n c l W h hre)
    have lw : w.heap.size < b5 := by omega
    subst hre
    clear hFd hFf hEr hRf hb5d
    have zr := (blk_facts hb3).1
    go_wp2_with fail
    refine (hFd2.out _ s3 (by omega)).mono ?_; rintro e w3 ⟨A, n, c, l, k4, rfl, hS, hn, s4, hk4, g4⟩
    have hgr4 := grown_trans hgr3 g4
    have hK4 := blk_stream hK3 s3 g4 (by decide)
    have hb4 := blk_stream hb3 s3 g4 (by decide)
    have lK4 := lt_of_heap hK4
    clear s3 g4 hgr3 hK3 hb3 zr
    have z0 := (blk_facts hb4).1 0
    have z1 := (blk_facts hb4).1 1
    have z2 := (blk_facts hb4).1 2
    have z3 := (blk_facts hb4).1 3
    have z4 := (blk_facts hb4).1 4
    have z5 := (blk_facts hb4).1 5
    have z6 := (blk_facts hb4).1 6
    have z7 := (blk_facts hb4).1 7
    have lb4 := lt_of_heap hb4
    obtain ⟨zK, yK⟩ := blk_facts hK4
    have hne1 : b5 ≠ w.heap.size := by omega
    have hne2 : w.heap.size ≠ b5 := by omega
    go_wp2_with fail
    go_region_held3 (fun w' => w'.cell? ⟨b5, 0, none⟩ = some (.string key) ∧ w'.cell? ⟨b5, 1, none⟩ = some (.int .i64 metres) ∧ w'.cell? ⟨b5, 2, none⟩ = some (.int .i64 stroke) ∧ w'.cell? ⟨b5, 3, none⟩ = some (.int .i64 course) ∧ w'.cell? ⟨b5, 4, none⟩ = some (.int .i64 legs) ∧ w'.cell? ⟨b5, 5, none⟩ = some (.int .i64 sex) ∧ w'.cell? ⟨b5, 6, none⟩ = some (.int .i64 young) ∧ w'.cell? ⟨b5, 7, none⟩ = some (.int .i64 old)) (first | go_keep | with_reducible exact ⟨(blk_facts hb6).1 0, (blk_facts hb6).1 1, (blk_facts hb6).1 2, (blk_facts hb6).1 3, (blk_facts hb6).1 4, (blk_facts hb6).1 5, (blk_facts hb6).1 6, (blk_facts hb6).1 7⟩)
      (first
        | (go_at_call 42; with_reducible refine (hFf2.out A n c l _ hS.drew).mono ?_; rintro e w6 ⟨rfl, B6⟩; have hb6 := blk_below (w := World.drew _) hb4 B6; have hK6 := blk_below (w := World.drew _) hK4 B6; obtain ⟨zK6, yK6⟩ := blk_facts hK6; have lK6 := lt_of_heap hK6; have lb6 := lt_of_heap hb6; have y0 := (blk_facts hb6).1 0; have y1 := (blk_facts hb6).1 1; have y2 := (blk_facts hb6).1 2; have y3 := (blk_facts hb6).1 3; have y4 := (blk_facts hb6).1 4; have y5 := (blk_facts hb6).1 5; have y6 := (blk_facts hb6).1 6; have y7 := (blk_facts hb6).1 7))
    have s6 := s4.drew.below B6
    have hgr6 := grown_trans (grown_drew hgr4) (grown_of_below B6)
    have hS6 := (hS.drew.below B6).keep (T := 27) ⟨by decide, by decide⟩ (keep_set8 hK6 (.string key) (.int .i64 metres) (.int .i64 stroke) (.int .i64 course) (.int .i64 legs) (.int .i64 sex) (.int .i64 young) (.int .i64 old))
    have HS := Lib.hid hS6
    clear hS6 y0 y1 y2 y3 y4 y5 y6 y7 hne1 hne2 hb6 hb4 hK4 hK6 z0 z1 z2 z3 z4 z5 z6 z7 zK yK
    go_wp2
    refine bodyPost_ret (v := .tuple #[.agg #[.string key, .int .i64 metres, .int .i64 stroke, .int .i64 course, .int .i64 legs, .int .i64 sex, .int .i64 young, .int .i64 old], .slice A n c, .int .i64 (FE l)]) (by simp [results, Tryz.results8, go_sem, zK6]) rfl ⟨⟨key, metres, stroke, course, legs, sex, young, old⟩, A, n, c, l, k4, by rw [hFE'.out]; rfl, HS.out, hn, ?_, by omega, ?_⟩
    · repeat (with_reducible refine St.setAt ?_ (by assumption) _)
      exact s6
    · repeat (with_reducible refine grown_setAt ?_ (Nat.le_refl _) _)
      exact hgr6
end Go.Proofs.YtamcmehmcbjgjaaGreatDoor
