/- ReportsKept: the walk. -/
import Derived.Test.YtjafcnblgeibpaaGreatDoorRptE
import Derived.Test.YtjafcnblgeibpaaGreatDoorRptG
import Derived.Test.YtjafcnblgeibpaaGreatDoorHalfR
import Derived.Test.YtjafcnblgeibpaaGreatDoorRptM
import Derived.Test.YtjafcnblgeibpaaGreatDoorJudged
import Derived.Test.YtjafcnblgeibpaaGreatDoorDraws
import Derived.Deep.DeepCutAuto
namespace Go.Proofs.YtjafcnblgeibpaaGreatDoor
open Go.RowKit Go.Shelf Go.Lib Go.Sort
set_option linter.unusedVariables false

theorem mrgR_ids {a : List Rp} (hn : (a.map Rp.id).Nodup) : ∀ {b p : List Rp}, (b.map Rp.id).Nodup → mrgR a b = some p → p.Sublist b ∧ ∀ x ∈ p, ∀ y ∈ a, y.id ≠ x.id
  | [], p, _, h => by simp [mrgR] at h; subst h; exact ⟨.slnil, by simp⟩
  | x :: r, p, hb, h => by
    simp only [List.map_cons, List.nodup_cons] at hb
    unfold mrgR at h
    split at h
    · rename_i hf
      cases e : mrgR a r with
      | none => rw [e] at h; simp at h
      | some q =>
        rw [e] at h
        simp at h; subst h
        obtain ⟨h1, h2⟩ := mrgR_ids hn hb.2 e
        refine ⟨h1.cons_cons x, fun z hz y hy => ?_⟩
        rcases List.mem_cons.1 hz with rfl | hz
        · rw [List.find?_eq_none] at hf
          simpa using hf y hy
        · exact h2 z hz y hy
    · split at h
      · obtain ⟨h1, h2⟩ := mrgR_ids hn hb.2 h
        exact ⟨h1.cons x, h2⟩
      · cases h
theorem mrgQ_det {a b : List Rp} {E E' : Int} {o o' : List Rp} (ha : rpErr a = 0) (hb : rpErr b = 0) (h : MrgQ a b E o) (h' : MrgQ a b E' o') : E = E' ∧ o = o' := by
  rcases h with ⟨h1, h2, h3⟩ | ⟨p, h1, h2⟩
  · rcases h' with ⟨_, h5, h6⟩ | ⟨q, h4, _⟩
    · exact ⟨h2.trans h5.symm, h3.trans h6.symm⟩
    · rw [h1] at h4; cases h4
  · rcases h' with ⟨h4, _⟩ | ⟨q, h4, h5⟩
    · rw [h1] at h4; cases h4
    · rw [h1] at h4
      obtain rfl := Option.some.inj h4
      rcases h2 with ⟨c1, c2, c3⟩ | ⟨c1, c2, c3⟩
      · rcases h5 with ⟨_, d2, d3⟩ | ⟨d1, _⟩
        · exact ⟨c2.trans d2.symm, c3.trans d3.symm⟩
        · exact absurd c1 d1
      · rcases h5 with ⟨d1, _⟩ | ⟨_, d2, d3⟩
        · exact absurd d1 c1
        · refine ⟨c2.trans d2.symm, sorted_uniqR (c3.1.trans d3.1.symm) ?_ d3.2⟩
          obtain ⟨s1, s2⟩ := mrgR_ids (rpErr_ok ha).2.2 (rpErr_ok hb).2.2 h1
          have hnd : (o.map Rp.id).Nodup := by
            refine ((c3.1.map Rp.id).nodup_iff).2 ?_
            rw [List.map_append, List.nodup_append]
            refine ⟨(rpErr_ok ha).2.2, (rpErr_ok hb).2.2.sublist (s1.map Rp.id), fun i hi j hj => ?_⟩
            obtain ⟨y, hy, rfl⟩ := List.mem_map.1 hi
            obtain ⟨x, hx, rfl⟩ := List.mem_map.1 hj
            exact s2 x hx y hy
          have hp := c3.2
          rw [List.pairwise_iff_getElem] at hp ⊢
          intro i j hi hj hij
          have h9 := (rpLt_no _ _).1 (hp i j hi hj hij)
          have h8 := List.pairwise_iff_getElem.1 hnd i j (by simpa using hi) (by simpa using hj) hij
          rw [List.getElem_map, List.getElem_map] at h8
          rw [rpKey_neg]
          have h7 : cmpB o[i].id o[j].id ≠ 0 := fun e => h8 (cmpB_zero.1 e)
          have h6 := @cmpB_neg o[j].id o[i].id
          omega
theorem HK.set2 {α : Type} {enc : α → List Value} {sz : Nat} {T : TypeId} {w wx w' : World} {g : Nat} {zs : List Int} {u1 u2 : Value} {l1 l2 l3 : List α} {kk : Nat} (h : HK enc sz T w g zs u1 u2 l1 l2 kk wx) (ho : w'.ownsRow w.heap.size T sz u2 l3.length (l3.flatMap enc)) (hg : wx.grownBy w' u2.ownBlock) : HK enc sz T w g zs u1 u2 l1 l3 kk w' := by
  have hb : ∀ i, u2.ownBlock = some i → w.heap.size ≤ i := own_row_lt h.o2
  have hgl := h.gl
  exact ⟨h.o1.kept hg h.dis.symm.ne, ho, h.dis, h.st.grown hg (fun i hi => by have := hb i hi; omega), grown_own h.gr hg (fun i hi => hb i hi), hgl⟩
theorem judgedW_c (g : Nat) (zs : List Int) (k : Nat) (w : World) (h : St w g zs k) (hk : k + 10 ≤ 1099511627776) :
    Calls Tryz.prog 37 #[.pointer (some ⟨g, 0, none⟩)] w fun e w' => ∃ v : Int, e = .returned (.int .i64 v) ∧ St w' g zs (k + 1 + 1) ∧ w.grownBy w' (some g) := by
  have hP := pickB_c g zs k [-1, 345686400000, 345686399999] (-1) 345686400000 3 3 w.heap.size #[.int .i64 (-1), .int .i64 345686400000, .int .i64 345686399999] w h (by omega) rfl rfl rfl (by decide) (by decide) (by simp)
  go_enter Tryz.func37, Tryz.ntmps37
  go_wp2_with fail
  refine hP.mono ?_; rintro e w1 ⟨v, rfl, v0, v1, s1, g1⟩
  have hl : ∀ x ∈ [0, 10, 15, 60, 1000015, 1800000, 1800010, 3600000, 9000000, v], -1 ≤ x ∧ x ≤ 345686400000 := by simp; omega
  go_wp2_with fail
  refine (pickB_c g zs (k + 1) [0, 10, 15, 60, 1000015, 1800000, 1800010, 3600000, 9000000, v] (-1) 345686400000 10 10 w1.heap.size #[.int .i64 0, .int .i64 10, .int .i64 15, .int .i64 60, .int .i64 1000015, .int .i64 1800000, .int .i64 1800010, .int .i64 3600000, .int .i64 9000000, .int .i64 v] w1 s1 (by omega) rfl rfl rfl (by decide) (by decide) hl).mono ?_; rintro e w2 ⟨v2, rfl, v20, v21, s2, g2⟩
  have g3 := grown_trans g1 g2
  go_wp2
  go_ret
  exact ⟨v2, rfl, s2, g3⟩
def momJ (at_ : Int) : Int := if 0 ≤ at_ ∧ at_ ≤ 345686399999 then 0 else 1
theorem seeE_or (l : List Rp) (who : ByteArray) (at_ : Int) : orV [rpErr l, if keyB who = true then 0 else 5, momJ at_] = seeE l who at_ := by
  have e : momJ at_ = if momB at_ = true then 0 else 1 := by
    unfold momJ momB
    by_cases h : 0 ≤ at_ ∧ at_ ≤ 345686399999 <;> simp [h]
  rw [e]
  unfold seeE
  simp only [orV]
  by_cases h : rpErr l ≠ 0
  · rw [if_pos h, if_pos h]
  · rw [if_neg h, if_neg h]
    cases keyB who <;> cases momB at_ <;> rfl
theorem mergeE_or (a b : List Rp) {E : Int} {o : List Rp} (h : MrgP a b E o) : (orV [rpErr a, rpErr b] = 0 ∧ rpErr a = 0 ∧ rpErr b = 0 ∧ MrgQ a b E o) ∨ (orV [rpErr a, rpErr b] ≠ 0 ∧ E = orV [rpErr a, rpErr b] ∧ o = []) := by
  simp only [orV]
  rcases h with ⟨h1, h2, h3⟩ | ⟨h1, h2, h3, h4⟩ | ⟨h1, h2, h3⟩
  · exact .inr ⟨by rw [if_pos h1]; exact h1, by rw [if_pos h1]; exact h2, h3⟩
  · exact .inr ⟨by rw [if_neg (by simpa using h1), if_pos h2]; exact h2, by rw [if_neg (by simpa using h1), if_pos h2]; exact h3, h4⟩
  · exact .inl ⟨by rw [h1, h2]; rfl, h1, h2, h3⟩
theorem RRp.nil_n {w : World} {A : Option Addr} {n : Nat} (h : RRp w A n []) : n = 0 := h.len.symm
structure K42 (w : World) (A : Option Addr) (a : List Rp) (B : Option Addr) (b : List Rp) (wx : World) : Prop where
  la : RRp wx A a.length a
  lb : RRp wx B b.length b
  bel : Below w.heap.size w wx
theorem K42.below {w : World} {A : Option Addr} {a : List Rp} {B : Option Addr} {b : List Rp} {wx w' : World} (h : K42 w A a B b wx) (hb : Below wx.heap.size wx w') : K42 w A a B b w' := ⟨h.la.below hb, h.lb.below hb, below_next h.bel hb⟩
theorem equalRp_same2 (A1 A2 : Option Addr) (n c m d : Nat) (l l' : List Rp) {w : World} (h1 : RRp w A1 n l) (h2 : RRp w A2 m l') (he : l = l') :
    Calls Tryz.prog 43 #[.slice A1 n c, .slice A2 m d] w fun e w' => e = .returned (.bool true) ∧ Below w.heap.size w w' :=
  (equalRp_c A1 A2 n c m d l l' w h1 h2).mono fun e w' ⟨hr, q, hB⟩ => ⟨by rw [hr, decide_eq_true he], by rw [hB]; exact below_drewN (Below.refl _ _) _⟩
set_option maxHeartbeats 6400000 in
set_option maxRecDepth 100000 in
theorem reportsKept_walk (a0 : Option Addr) (len0 cap0 : Nat) (z0 : List Int) (w : World) (w0 : IsRow .i64 w a0 len0 cap0 z0) (htab : Tb w) :
    Calls Tryz.prog 5 #[.slice a0 len0 cap0] w fun e w' => e = .returned (.bool true) ∧ Below w.heap.size w w' := by
  have hs := law_start w0
  clear w0
  generalize z0.take len0 = zs at *
  go_enter Tryz.func5, Tryz.ntmps5
  go_wp2_with fail
  have hs' : St (w.alloc (.cells #[.slice a0 len0 cap0, .int .i64 0] 25)) w.heap.size zs 0 := hs
  have hB1 := below_new w (.cells #[.slice a0 len0 cap0, .int .i64 0] 25)
  have hSz : (w.alloc (.cells #[.slice a0 len0 cap0, .int .i64 0] 25)).heap.size = w.heap.size + 1 := by simp
  clear hs
  generalize w.alloc (.cells #[.slice a0 len0 cap0, .int .i64 0] 25) = wS at *
  refine (rangeE_c _ zs 0 0 8 _ hs' (by omega) (by decide) (by decide) (by decide)).mono ?_; rintro e w1 ⟨v, rfl, v0, v1, s1, g1⟩
  obtain ⟨M, rfl⟩ : ∃ M : Nat, v = M := ⟨v.toNat, by omega⟩
  have hB2 := hB1.trans (grown_below g1 (Nat.le_refl _) hB1.size)
  clear hs'
  go_wp2_with fail
  refine (reports_c _ zs 1 M _ w s1 (by omega) (by omega) htab hB2 (Nat.le_refl _)).mono ?_; rintro e w2 ⟨A, c, a, k2, rfl, ho2, hl2, s2, hk2, g2⟩
  subst hl2
  have gr2 := grown_trans g1 g2
  have hz1 := g1.size
  have hR2 : RRp w2 A a.length a := RN.of_own rpE_len ho2 rfl (by omega)
  have hB3 := hB2.trans (grown_below g2 (Nat.le_refl _) hB2.size)
  clear s1 g2 g1
  go_wp2_with fail
  refine (cloneRp_c A a.length c a w2 hR2 (by omega)).mono ?_; rintro e w3 ⟨A3, c3, rfl, _, B3⟩
  have ho3 := own_below ho2 B3
  have s3 := s2.below B3
  have gr3 := grown_trans gr2 (grown_of_below B3)
  have hB4 := below_next hB3 B3
  clear ho2 hR2 hB3 B3 s2 gr2
  go_wp2_with fail
  refine (flipE_c _ zs k2 3 _ s3 (by omega) (by omega) (by omega)).mono ?_; rintro e w4 ⟨fl, rfl, s4, g4⟩
  have ho4 := own_keep ho3 (g := w.heap.size) (by omega) g4
  have gr4 := grown_trans gr3 g4
  have hB5 := hB4.trans (grown_below g4 (Nat.le_refl _) hB4.size)
  have hz4 := gr4.size
  clear ho3 s3 gr3 hB4 g4
  go_upto_if 24 with (fail)
  go_cut [4, 5] (fun s4 s5 wx => ∃ (A1 : Option Addr) (c1 : Nat) (A2 : Option Addr) (c2 : Nat) (a1 b1 : List Rp) (kk : Nat), s4 = .slice A1 a1.length c1 ∧ s5 = .slice A2 b1.length c2 ∧ a1.length ≤ 8 ∧ b1.length ≤ 8 ∧ kk ≤ 1000 ∧ HK rpE 7 62 wS w.heap.size zs (.slice A1 a1.length c1) (.slice A2 b1.length c2) a1 b1 kk wx)
  case first =>
    cases fl
    · have hR4 : RRp w4 A a.length a := RN.of_own rpE_len ho4 rfl (by omega)
      have hHC := Lib.hid (halfReports_c A a.length c a w.heap.size zs (k2 + 1) w4 hR4 s4 (by omega) (by omega))
      go_wp2_with fail
      refine hHC.out.mono ?_; rintro e w5 ⟨ks, A1, c1, A2, c2, rfl, hks, _, _, _, _, s5, g5, hdis, _, _, own1, own2⟩
      have hlA := (halfA_sub ks).length_le
      have hlB := (halfB_sub ks).length_le
      rw [hks] at hlA hlB
      have K : HK rpE 7 62 wS w.heap.size zs (.slice A1 (hfA ks).length c1) (.slice A2 (hfB ks).length c2) (hfA ks) (hfB ks) (k2 + 1 + a.length) w5 := ⟨own_mono own1 hz4, own_mono own2 hz4, fun i h1 h2 => hdis i i h1 h2 rfl, s5, grown_trans gr4 g5, by omega⟩
      have hla1 : (hfA ks).length ≤ 8 := by omega
      have hlb1 : (hfB ks).length ≤ 8 := by omega
      have hkk : k2 + 1 + a.length ≤ 1000 := by omega
      clear ho4 s4 gr4 hB5 hHC g5 own1 own2 hdis s5 hks hR4 hlA hlB
      go_wp2
      go_meet
      case rel => exact ⟨_, _, _, _, _, _, _, rfl, rfl, hla1, hlb1, hkk, K⟩
    · go_wp2_with fail
      refine (rangeE_c _ zs (k2 + 1) 0 4 _ s4 (by omega) (by decide) (by decide) (by decide)).mono ?_; rintro e w5 ⟨v, rfl, u0, u1, s5, g5⟩
      obtain ⟨M, rfl⟩ : ∃ M : Nat, v = M := ⟨v.toNat, by omega⟩
      have ho5 := own_keep ho4 (g := w.heap.size) (by omega) g5
      have gr5 := grown_trans gr4 g5
      have hB6 := hB5.trans (grown_below g5 (Nat.le_refl _) hB5.size)
      clear ho4 s4 gr4 hB5 g5
      go_wp2_with fail
      refine (reports_c _ zs (k2 + 1 + 1) M _ w s5 (by omega) (by omega) htab hB6 (Nat.le_refl _)).mono ?_; rintro e w6 ⟨A2, c2, b1, k6, rfl, ho6, hl6, s6, hk6, g6⟩
      subst hl6
      have ho7 := own_keep ho5 (g := w.heap.size) (by omega) g6
      have hz5 := gr5.size
      have K : HK rpE 7 62 wS w.heap.size zs (.slice A a.length c) (.slice A2 b1.length c2) a b1 k6 w6 := ⟨own_mono ho7 hz1, own_mono ho6 hz5, fun i h1 h2 => by have q1 := (ho5.lt i h1).2; have q2 := own_row_lt ho6 i h2; omega, s6, grown_trans gr5 g6, by omega⟩
      have hkk : k6 ≤ 1000 := by omega
      have hla1 : a.length ≤ 8 := by omega
      have hlb1 : b1.length ≤ 8 := by omega
      clear ho5 ho6 ho7 s5 s6 gr5 g6 hB6
      go_wp2
      go_meet
      case rel => exact ⟨_, _, _, _, _, _, _, rfl, rfl, hla1, hlb1, hkk, K⟩
  case rest =>
    clear ho4 s4 gr4 hB5
    obtain ⟨A1, c1, A2, c2, a1, b1, kk, rfl, rfl, hla1, hlb1, hkk, K⟩ := hcut
    rename World => wK
    go_upto_region 7 with (fail)
    go_cut [41] (fun s41 wx => ∃ (q : Bool) (k2 : Nat), s41 = .bool q ∧ (q = true → 0 < b1.length) ∧ k2 ≤ 1001 ∧ HK rpE 7 62 wS w.heap.size zs (.slice A1 a1.length c1) (.slice A2 b1.length c2) a1 b1 k2 wx)
    case first =>
      by_cases hb0 : b1.length = 0
      · have hbi : ¬ (0 : Int) < (b1.length : Nat) := by omega
        clear hb0
        go_wp2
        go_meet
        case rel => exact ⟨false, kk, rfl, (fun h => by cases h), by omega, K⟩
      · have hbi : (0 : Int) < (b1.length : Nat) := by omega
        have hbp : 0 < b1.length := by omega
        go_wp2_with fail
        refine (flipE_c _ zs _ 5 _ K.st (by omega) (by omega) (by omega)).mono ?_; rintro e x0 ⟨fl, rfl, t0, q0⟩
        replace K := K.stream t0 q0
        clear t0 q0
        go_wp2
        go_meet
        case rel => exact ⟨fl, kk + 1, rfl, (fun _ => hbp), by omega, K⟩
    case rest =>
      clear K
      obtain ⟨q, k3, rfl, hq, hk3, K⟩ := hcut
      rename World => x0
      go_upto_if 41 with (fail)
      go_cut [5] (fun s5 wx => ∃ (b9 : List Rp), s5 = .slice A2 b9.length c2 ∧ b9.length ≤ 8 ∧ HK rpE 7 62 wS w.heap.size zs (.slice A1 a1.length c1) (.slice A2 b9.length c2) a1 b9 k3 wx)
      case first =>
        cases q
        · clear hq
          go_wp2
          go_meet
          case rel => exact ⟨b1, rfl, hlb1, K⟩
        · have hbp := hq rfl
          clear hq
          obtain ⟨bb, rfl, hbb⟩ := own_someN K.o2 (by omega)
          have hRB : RRp x0 (some ⟨bb, 0, none⟩) b1.length b1 := RN.of_own rpE_len K.o2 rfl (by omega)
          obtain ⟨b', off', y, hA, hbl, hy, _, _, _, _, _, _, y6⟩ := RRp_at7 hRB (show 0 < b1.length by omega)
          injection hA with hA
          injection hA with e1 e2
          subst e1 e2
          have y6' : x0.cell? ⟨bb, 6, none⟩ = some (.bool y.nt) := y6
          have f6 := K.o2.frozenAt 6
          have hst := K.o2.stored 6 (.bool (!y.nt))
          have hfs : (b1.flatMap rpE).set 6 (.bool (!y.nt)) = (b1.set 0 ⟨y.id, y.jd, y.who, y.fault, y.tm, y.wt, !y.nt⟩).flatMap rpE := flat_set rpE_len b1 0 y ⟨y.id, y.jd, y.who, y.fault, y.tm, y.wt, !y.nt⟩ 6 (.bool (!y.nt)) hy (by decide) rfl
          rw [hfs] at hst
          have hl9 : (b1.set 0 ⟨y.id, y.jd, y.who, y.fault, y.tm, y.wt, !y.nt⟩).length = b1.length := List.length_set ..
          rw [← hl9] at hst
          have K' := K
          rw [← hl9] at K'
          have K9 := Lib.hid (K'.set2 hst.1 hst.2)
          clear K'
          have hl9' := Lib.hid hl9
          clear hst hfs hl9 hRB y6 hy hbb
          go_wp2
          go_meet
          case rel => exact ⟨_, by rw [hl9'.out], by rw [hl9'.out]; exact hlb1, K9.out⟩
      case rest =>
        clear K
        obtain ⟨b9, rfl, hlb9, K⟩ := hcut
        rename World => xs
        clear hlb1 hq
        go_wp2_with fail
        refine (judgedW_c _ zs _ _ K.st (by omega)).mono ?_; rintro e x1 ⟨at_, rfl, t1, q1⟩
        replace K := K.stream t1 q1
        clear t1 q1
        go_wp2_with fail
        refine (someE_c _ zs _ [⟨#[115, 48]⟩, ⟨#[115, 49]⟩, ⟨#[115, 55]⟩, ⟨#[]⟩] 4 4 x1.heap.size #[.string ⟨#[115, 48]⟩, .string ⟨#[115, 49]⟩, .string ⟨#[115, 55]⟩, .string ⟨#[]⟩] x1 K.st (by omega) rfl rfl rfl (by decide) (by decide)).mono ?_; rintro e x2 ⟨who, rfl, hwm, t2, q2⟩
        replace K := K.stream t2 q2
        have KQ : K42 w A1 a1 A2 b9 x2 := ⟨RN.of_own rpE_len K.o1 rfl (by omega), RN.of_own rpE_len K.o2 rfl (by omega), hB1.trans (grown_below K.gr (Nat.le_refl _) hB1.size)⟩
        clear K t2 q2 hwm
        have hF1 := Lib.hid (fun W (h : K42 w A1 a1 A2 b9 W) => reportsFault_c A1 a1.length c1 a1 W h.la)
        have hF2 := Lib.hid (fun W (h : K42 w A1 a1 A2 b9 W) => checkReports_c A1 a1.length c1 a1 W h.la)
        have hF3 := Lib.hid (fun W (h : K42 w A1 a1 A2 b9 W) => reportsFault_c A2 b9.length c2 b9 W h.lb)
        have hMg := Lib.hid (fun W (h : K42 w A1 a1 A2 b9 W) => mergeR_c A1 A2 a1.length c1 b9.length c2 a1 b9 W h.la h.lb (by omega) (by omega))
        have hMr := Lib.hid (fun W (hn : (a1.map Rp.id).Nodup) (h : K42 w A1 a1 A2 b9 W) => reportsMerged_c A1 A2 a1.length c1 b9.length c2 a1 b9 W h.la h.lb (by omega) (by omega) (Lib.hid hn))
        have hSn := Lib.hid (fun W (h : K42 w A1 a1 A2 b9 W) => seen_c A1 a1.length c1 a1 who at_ W h.la (by omega))
        have hSo := Lib.hid (fun W (h : K42 w A1 a1 A2 b9 W) => seenOf_c A1 a1.length c1 a1 who at_ W h.la (by omega))
        have hKf := Lib.hid (fun W => kFault_c who W)
        have hMf := Lib.hid (fun W => show Calls Tryz.prog 46 #[.int .i64 at_] W fun e w' => e = .returned (.int .i64 (momJ at_)) ∧ W = w' from momentFault_c at_ W)
        have hmo := Lib.hid (fun E o h => mergeE_or a1 b9 (E := E) (o := o) h)
        have hdt := Lib.hid (fun E E' o o' h1 h2 h3 h4 => mrgQ_det (a := a1) (b := b9) (E := E) (E' := E') (o := o) (o' := o') h1 h2 h3 h4)
        have hnd := Lib.hid (fun h => (rpErr_ok (l := a1) h).2.2)
        have hse := Lib.hid (seeE_or a1 who at_)
        have hKB := Lib.hid (fun W (h : K42 w A1 a1 A2 b9 W) => h.bel)
        have hKb := Lib.hid (fun W w' (h : K42 w A1 a1 A2 b9 W) (B : Below W.heap.size W w') => h.below B)
        generalize K42 w A1 a1 A2 b9 = KK at *
        generalize hRE : rpErr a1 = RE at *
        generalize rpErr b9 = RB at *
        generalize seeE a1 who at_ = SE at *
        generalize (if keyB who = true then (0 : Int) else 5) = KF at *
        generalize momJ at_ = MF at *
        generalize seenV a1 who at_ = SN at *
        clear hRE
        go_wp2_with fail
        refine (hF1.out _ KQ).mono ?_; rintro e x3 ⟨rfl, B3⟩
        replace KQ := hKb.out _ _ KQ B3
        clear B3 hF1
        go_wp2_with fail
        refine (hF2.out _ KQ).mono ?_; rintro e x4 ⟨rfl, B4⟩
        replace KQ := hKb.out _ _ KQ B4
        clear B4 hF2
        have hcc : (RE != RE) = false := by simp
        go_wp2_with fail
        refine (hMg.out _ KQ).mono ?_; rintro e x5 ⟨A5, n5, c5, o5, E5, rfl, r5, _, hm5, B5⟩
        replace KQ := hKb.out _ _ KQ B5
        clear B5 hMg
        have hm := hmo.out _ _ hm5
        clear hm5 hmo
        go_wp2_with fail
        refine (hF3.out _ KQ).mono ?_; rintro e x6 ⟨rfl, B6⟩
        replace KQ := hKb.out _ _ KQ B6
        replace r5 := r5.below B6
        clear B6 hF3
        go_wp2_with fail
        refine (orE_c _ _ _ [RE, RB] _ (R1.litAt _ _ _ [_, _] (by first | rfl | simp) rfl (by simp))).mono ?_; rintro e wm ⟨rfl, rfl⟩
        have hBm := below_new x6 (.cells #[.int .i64 RE, .int .i64 RB] 32)
        replace KQ := hKb.out _ _ KQ hBm
        replace r5 := r5.below hBm
        clear hBm hcc
        generalize orV [RE, RB] = OR at *
        go_upto_if 73 with (fail)
        have hmH := Lib.hid hm
        clear hm
        go_cut [11, 12] (fun s11 s12 wx => s11 = .int .i64 E5 ∧ (∃ A n c, s12 = .slice A n c ∧ RRp wx A n o5) ∧ RRp wx A5 n5 o5 ∧ KK wx)
        case first =>
          have r5' := Lib.hid (fun W B => r5.below (w' := W) B)
          rcases hmH.out with ⟨h0, h1, h2, hq⟩ | ⟨h0, h1, h2⟩
          · have hN := Lib.hid (hnd.out h1)
            have hdq := Lib.hid (fun E' o' h => hdt.out E5 E' o5 o' h1 h2 hq h)
            have ht : (OR == 0) = true := by simpa using h0
            clear h0 h1 h2 hq hmH hdt hnd r5
            go_wp2_with fail
            refine (hMr.out _ hN.out KQ).mono ?_; rintro e x8 ⟨A6, n6, c6, o6, E6, rfl, r6, _, hq6, B6⟩
            obtain ⟨rfl, rfl⟩ := hdq.out _ _ hq6
            replace KQ := hKb.out _ _ KQ B6
            have r5'' := r5'.out _ B6
            clear B6 hMr hq6
            go_wp2
            go_meet
            case rel => exact ⟨rfl, ⟨_, _, _, rfl, r6⟩, r5'', KQ⟩
          · have ht : (OR == 0) = false := by simpa using h0
            subst h1
            have hn6 : RRp (x6.alloc (.cells #[.int .i64 RE, .int .i64 RB] 32)) none 0 o5 := by rw [h2]; exact RN.nil_ ..
            clear h0 h2 hmH hdt hnd r5'
            go_wp2
            go_meet
            case rel => exact ⟨rfl, ⟨_, _, _, rfl, hn6⟩, r5, KQ⟩
        case rest =>
          clear hmH KQ r5 hMr hdt hnd
          obtain ⟨rfl, ⟨A6, n6, c6, rfl, r6⟩, r5, KQ⟩ := hcut
          rename World => x8
          have hcc : (E5 != E5) = false := by simp
          go_wp2_with fail
          refine (equalRp_same2 A5 A6 n5 c5 n6 c6 o5 o5 r5 r6 rfl).mono ?_; rintro e x9 ⟨rfl, B9⟩
          replace KQ := hKb.out _ _ KQ B9
          clear r5 r6 B9 hcc
          by_cases hs0 : SE = 0
          · subst hs0
            rw [if_pos rfl] at hSn
            go_wp2_with fail
            refine (hSn.out _ KQ).mono ?_; rintro e y1 ⟨A7, c7, rfl, r7, C1⟩
            replace KQ := hKb.out _ _ KQ C1
            clear C1 hSn
            go_wp2_with fail
            refine (hKf.out _).mono ?_; rintro e y2 ⟨rfl, C2⟩
            replace KQ := hKb.out _ _ KQ C2
            replace r7 := r7.below C2
            clear C2 hKf
            go_wp2_with fail
            refine (hMf.out _).mono ?_; rintro e y3 ⟨rfl, rfl⟩
            go_wp2_with fail
            refine (orE_c _ _ _ [RE, KF, MF] _ (R1.litAt _ _ _ [_, _, _] (by first | rfl | simp) rfl (by simp))).mono ?_; rintro e wm ⟨rfl, rfl⟩
            have hBm := below_new y2 (.cells #[.int .i64 RE, .int .i64 KF, .int .i64 MF] 32)
            replace KQ := hKb.out _ _ KQ hBm
            replace r7 := r7.below hBm
            clear hBm
            rw [hse.out]
            go_wp2_with fail
            refine (hSo.out _ KQ).mono ?_; rintro e y5 ⟨A8, c8, rfl, r8, C5⟩
            replace KQ := hKb.out _ _ KQ C5
            replace r7 := r7.below C5
            clear C5 hSo
            go_wp2_with fail
            refine (equalS2_c A7 A8 _ c7 _ c8 SN _ r7 r8).mono ?_; rintro e y6 ⟨rfl, C6⟩
            replace KQ := hKb.out _ _ KQ C6
            clear C6 r7 r8
            go_wp2_with fail
            refine (judged_c _).mono ?_; rintro e y7 ⟨rfl, C7⟩
            have hfB := below_next (hKB.out _ KQ) C7
            clear C7 KQ
            go_wp2
            go_ret
            exact ⟨rfl, hfB⟩
          · rw [if_neg hs0] at hSn
            have hb0 : (SE != 0) = true := by simpa using hs0
            have hb1 : (SE == SE) = true := by simp
            go_wp2_with fail
            refine (hSn.out _ KQ).mono ?_; rintro e y1 ⟨A7, c7, rfl, r7, C1⟩
            replace KQ := hKb.out _ _ KQ C1
            clear C1 hSn r7
            go_wp2_with fail
            refine (hKf.out _).mono ?_; rintro e y2 ⟨rfl, C2⟩
            replace KQ := hKb.out _ _ KQ C2
            clear C2 hKf
            go_wp2_with fail
            refine (hMf.out _).mono ?_; rintro e y3 ⟨rfl, rfl⟩
            go_wp2_with fail
            refine (orE_c _ _ _ [RE, KF, MF] _ (R1.litAt _ _ _ [_, _, _] (by first | rfl | simp) rfl (by simp))).mono ?_; rintro e wm ⟨rfl, rfl⟩
            have hBm := below_new y2 (.cells #[.int .i64 RE, .int .i64 KF, .int .i64 MF] 32)
            replace KQ := hKb.out _ _ KQ hBm
            clear hBm
            rw [hse.out]
            clear hs0
            go_wp2_with fail
            refine (judged_c _).mono ?_; rintro e y7 ⟨rfl, C7⟩
            have hfB := below_next (hKB.out _ KQ) C7
            clear C7 KQ
            go_wp2
            go_ret
            exact ⟨rfl, hfB⟩
end Go.Proofs.YtjafcnblgeibpaaGreatDoor
