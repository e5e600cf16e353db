/- JudgesStay: reports, claims, verdicts and times that are handed in stay: the walk. -/
import Derived.Test.YtklggnglaeagpaaGreatDoorRpF
import Derived.Test.YtklggnglaeagpaaGreatDoorSeedV
import Derived.Test.YtklggnglaeagpaaGreatDoorMrgRO
import Derived.Test.YtklggnglaeagpaaGreatDoorVerO
import Derived.Test.YtklggnglaeagpaaGreatDoorVerX
import Derived.Test.YtklggnglaeagpaaGreatDoorMedD
import Derived.Test.YtklggnglaeagpaaGreatDoorP47
import Derived.Test.YtklggnglaeagpaaGreatDoorSetR
import Derived.Test.YtklggnglaeagpaaGreatDoorReady
import Derived.Deep.DeepCutAuto
namespace Go.Proofs.YtklggnglaeagpaaGreatDoor
open Go.RowKit Go.Lib
set_option linter.unusedVariables false

theorem rkGo_zero : ∀ (l : List Rk), (∀ x ∈ l, rk1 x = 0) → rkGo l = 0
  | [], _ => rfl
  | x :: l, h => by
    unfold rkGo
    rw [h x (List.mem_cons_self ..), if_neg (by decide)]
    exact rkGo_zero l (fun y hy => h y (List.mem_cons_of_mem _ hy))
theorem seedNodup53 {l : List Sd} (h : seedErr l = 0) : (l.map Sd.who).Nodup := by
  rw [seedErr_ref] at h
  split at h
  · cases h
  · split at h
    · rename_i h2; exact absurd h h2
    · split at h
      · assumption
      · cases h
/-- ranks of right seeds are right -/
theorem rank_right53 {l : List Sd} (h0 : seedErr l = 0) (hl : l.length ≤ 19) : rkErr (rankD 1 l []) = 0 := by
  obtain ⟨_, hso⟩ := seedErr_ok h0
  have hE : rankE l [] = 0 := by unfold rankE; rw [if_neg (by simp [h0])]; rfl
  unfold rankD
  rw [if_pos hE]
  have hp := rankL_perm 1 (faultV []) l
  have hlen : (rankL 1 (faultV []) l).length = l.length := by have := hp.length_eq; rwa [List.length_map, List.length_map] at this
  rw [rkErr_ref, if_neg (by omega)]
  have hz : rkGo (rankL 1 (faultV []) l) = 0 := rkGo_zero _ (fun x hx => by
    obtain ⟨⟨r0, r1⟩, ⟨y, hy, e1, e2, e3⟩, r3⟩ := rankL_ok hx
    obtain ⟨k1, k2⟩ := hso y hy
    have hf : faultV [] y.who = 0 := rfl
    rw [hf] at e3
    unfold rk1
    rw [e1, k1, if_neg (by decide), if_neg (by rw [e2]; exact fun h9 => h9 ⟨⟨r0, by omega⟩, k2⟩), if_neg (by rw [e3]; exact fun h9 => h9 ⟨by decide, by decide⟩), if_neg (fun h9 => by
      rcases r3 with h8 | ⟨h8, _⟩
      · exact h9.1 h8
      · rcases h9.2 with h7 | h7
        · exact h8 h7
        · exact h7 e3)])
  rw [hz, if_neg (by decide), if_pos ((hp.nodup_iff).2 (seedNodup53 h0))]
/-- a list that is merged with itself -/
theorem mrg_self53 {l out : List Rp} {E : Int} (h0 : rpErr l = 0) (h : MrgP l l E out) : E = 0 ∧ out.length = l.length := by
  obtain ⟨k1, _, k3⟩ := rpErr_ok h0
  have hr := mrgR_rest (a := l) k3 (b := l) (fun x hx y hy e => by
    obtain ⟨i, hi, ei⟩ := List.getElem_of_mem hx
    obtain ⟨j, hj, ej⟩ := List.getElem_of_mem hy
    have hn := List.pairwise_iff_getElem.1 k3
    rcases Nat.lt_trichotomy i j with h6 | h6 | h6
    · have h9 := hn i j (by simpa using hi) (by simpa using hj) h6
      rw [List.getElem_map, List.getElem_map, ei, ej] at h9
      exact absurd e.symm h9
    · subst h6; exact ej.symm.trans ei
    · have h9 := hn j i (by simpa using hj) (by simpa using hi) h6
      rw [List.getElem_map, List.getElem_map, ei, ej] at h9
      exact absurd e h9)
  have hre : restB l l = [] := by
    unfold restB
    rw [List.filter_eq_nil_iff]
    intro x hx
    simpa using hx
  rw [hre] at hr
  rcases h with ⟨h1, _⟩ | ⟨_, h1, _⟩ | ⟨_, _, h3⟩
  · exact absurd h0 h1
  · exact absurd h0 h1
  · rcases h3 with ⟨h4, _⟩ | ⟨p, h4, h5⟩
    · rw [hr] at h4; cases h4
    · rw [hr] at h4
      obtain rfl := Option.some.inj h4
      rcases h5 with ⟨h6, _⟩ | ⟨_, h7, h8⟩
      · simp at h6; omega
      · exact ⟨h7, by have := h8.1.length_eq; simpa using this⟩
theorem vrd53 {l : List Rp} (h : rpErr l = 0) : vrdE l 100 = 0 := by
  unfold vrdE
  rw [if_neg (by simp [h])]
  rfl
theorem own_cap53 {w : World} {base : Nat} {e : TypeId} {size n c : Nat} {A : Option Addr} {xs : List Value} (h : w.ownsRow base e size (.slice A n c) n xs) (hp : 0 < n) : ∃ g, A = some ⟨g, 0, none⟩ := by
  rcases h.2 with ⟨h1, h2⟩ | ⟨g, cap, cur, h1, _⟩
  · injection h1 with _ h3 _
    omega
  · injection h1 with h1 _ _
    exact ⟨g, h1⟩
theorem own_other53 {wr : World} {B1 B2 e2 s2 n m g o d c e1 s1 : Nat} {xs ys : List Value} {A : Option Addr} (v : Value) (hx : wr.ownsRow B1 e1 s1 (.slice (some ⟨g, 0, none⟩) n c) n xs) (hy : wr.ownsRow B2 e2 s2 (.slice A m d) m ys) : ∃ ys' : List Value, ys'.length = ys.length ∧ (wr.setCell ⟨g, o, none⟩ v).ownsRow B2 e2 s2 (.slice A m d) m ys' := by
  by_cases e : (Value.slice A m d).ownBlock = some g
  · rcases hy.2 with ⟨h1, _⟩ | ⟨g2, cap, cur, h1, _⟩
    · injection h1 with h1 _ _
      subst h1
      simp [Value.ownBlock] at e
    · injection h1 with h1 _ _
      subst h1
      have e' : g2 = g := by simpa [Value.ownBlock] using e
      subst e'
      exact ⟨_, by rw [List.length_set], (hy.stored o v).1⟩
  · exact ⟨ys, rfl, hy.kept (hx.stored o v).2 (.inr e)⟩
/-- a row that is spoilt: only the row itself -/
structure Sp53 (w : World) (base : Nat) (T : TypeId) (s : Nat) (A : Option Addr) (n c : Nat) (wr : World) : Prop where
  own : ∃ xs, xs.length = n * s ∧ wr.ownsRow base T s (.slice A n c) n xs
  bel : Below base w wr
theorem Sp53.below {w wr w' : World} {base : Nat} {T : TypeId} {s : Nat} {A : Option Addr} {n c : Nat} (h : Sp53 w base T s A n c wr) (hz : base ≤ wr.heap.size) (B : Below wr.heap.size wr w') : Sp53 w base T s A n c w' := by
  obtain ⟨xs, h1, h2⟩ := h.own
  exact ⟨⟨xs, h1, own_below h2 B⟩, h.bel.trans (B.mono hz)⟩
/-- rows of names whose slices lie in block bo, all of them spoilt -/
structure SpG (w0 : World) (base bo s d : Nat) (C : List (Option Addr × Nat × Nat)) (wr : World) : Prop where
  cell : ∀ i p, C[i]? = some p → wr.cell? ⟨bo, i * s + d, none⟩ = some (.slice p.1 p.2.1 p.2.2)
  far : ∀ p ∈ C, (Value.slice p.1 p.2.1 p.2.2).ownBlock ≠ some bo
  wh : ∀ p ∈ C, ∃ xs : List Value, xs.length = p.2.1 ∧ wr.ownsRow base 9 1 (.slice p.1 p.2.1 p.2.2) p.2.1 xs ∧ p.2.1 ≤ 140737488355328
  bel : Below base w0 wr
theorem SpG.spoil {w0 wr : World} {base bo s d g n o c : Nat} {C : List (Option Addr × Nat × Nat)} {xs : List Value} (h : SpG w0 base bo s d C wr) (hm : (some ⟨g, 0, none⟩, n, c) ∈ C) (hx : wr.ownsRow base 9 1 (.slice (some ⟨g, 0, none⟩) n c) n xs) (v : Value) : SpG w0 base bo s d C (wr.setCell ⟨g, o, none⟩ v) := by
  have hg : bo ≠ g := fun e => h.far _ hm (by simp [Value.ownBlock, e])
  refine ⟨fun i p hp => (World.cell?_of_block (Below.heap_setCell wr ⟨g, o, none⟩ v bo hg)).trans (h.cell i p hp), h.far, fun p hp => ?_, h.bel.setCell (hx.lt g rfl).1 v⟩
  obtain ⟨ys, h1, h2, h3⟩ := h.wh p hp
  obtain ⟨ys', h4, h5⟩ := own_other53 (o := o) v hx h2
  exact ⟨ys', h4.trans h1, h5, h3⟩
theorem SpG.other {w0 wr : World} {base bo s d g n o c B1 e1 s1 : Nat} {C : List (Option Addr × Nat × Nat)} {xs : List Value} (h : SpG w0 base bo s d C wr) (hx : wr.ownsRow B1 e1 s1 (.slice (some ⟨g, 0, none⟩) n c) n xs) (hg : 0 < C.length → bo ≠ g) (hb : base ≤ g) (v : Value) : SpG w0 base bo s d C (wr.setCell ⟨g, o, none⟩ v) := by
  refine ⟨fun i p hp => (World.cell?_of_block (Below.heap_setCell wr ⟨g, o, none⟩ v bo (hg (by have := lt_of_at hp; omega)))).trans (h.cell i p hp), h.far, fun p hp => ?_, h.bel.setCell hb v⟩
  obtain ⟨ys, h1, h2, h3⟩ := h.wh p hp
  obtain ⟨ys', h4, h5⟩ := own_other53 (o := o) v hx h2
  exact ⟨ys', h4.trans h1, h5, h3⟩
theorem Rank53_c (A B : Option Addr) (n c m c2 : Nat) (l : List Sd) (v : List Vd) (w : World) (h : RSd w A n l) (hv : RVd w B m v) (hn : n ≤ 19) :
    Calls Tryz.prog 15 #[.slice A n c, .slice B m c2] w (RetRk w (rankE l v) (rankD 1 l v)) := by
  have hR := Lib.hid (rank_c A B n c m c2 l v 1 w h hv hn (by omega) (by omega))
  generalize rankE l v = E at *
  generalize rankD 1 l v = D at *
  clear h hv
  go_enter Tryz.func15, Tryz.ntmps15
  go_wp2_with fail
  refine hR.out.mono ?_; rintro e w1 ⟨A', n', c', rfl, hr, hB⟩
  have H := Lib.hid (And.intro hr hB)
  clear hr hB hR
  go_wp2
  go_ret2
  exact ⟨A', n', c', rfl, H.out.1, H.out.2⟩
structure K53 (w : World) (X : World → Prop) (wx : World) : Prop where
  x : X wx
  kp : ∀ a b, X a → Below a.heap.size a b → X b
  bel : Below w.heap.size w wx
theorem K53.below {w wx w' : World} {X : World → Prop} (h : K53 w X wx) (B : Below wx.heap.size wx w') : K53 w X w' := ⟨h.kp _ _ h.x B, h.kp, below_next h.bel B⟩
set_option maxRecDepth 100000 in
theorem equalSd53_c (A1 A2 : Option Addr) (n c m d : Nat) (l : List Sd) (w : World) (h1 : RSd w A1 n l) (h2 : RSd w A2 m l) :
    Calls Tryz.prog 45 #[.slice A1 n c, .slice A2 m d] w fun e w' => e = .returned (.bool true) ∧ Below w.heap.size w w' := by
  obtain rfl : n = m := h1.len.symm.trans h2.len
  have b1 := h1.bd
  have hR1 := Lib.hid (fun W B => h1.below (w' := W) B)
  have hR2 := Lib.hid (fun W B => h2.below (w' := W) B)
  clear h1 h2
  go_enter Tryz.func45, Tryz.ntmps45
  go_wp2_with fail
  go_loopw [5, 13] (fun _ i wr => ∃ k : Nat, k ≤ n ∧ i = .int .i64 k ∧ Below w.heap.size w wr) (fun _ i _ => n - (intOf i).toNat)
  case atStart => exact ⟨0, Nat.zero_le _, rfl, Below.refl _ _⟩
  case round =>
    rename World => wr
    obtain ⟨k, hk, rfl, hB⟩ := hrel
    by_cases hlt : k < n
    · have hlti : (k : Int) < n := by omega
      obtain ⟨b, off, x, rfl, hbl, hx, c0, c1⟩ := RSd_at2 (hR1.out _ hB) hlt
      obtain ⟨b', off', y, rfl, hbl', hy, d0, d1⟩ := RSd_at2 (hR2.out _ hB) hlt
      obtain rfl : x = y := by rw [hx] at hy; exact Option.some.inj hy
      obtain ⟨who, tm⟩ := x
      dsimp only at *
      clear hx hy
      go_wp2
      go_quiet (fail)
      go_wp2
      go_roundw
      case rel => exact ⟨k + 1, by omega, by go_num, below_drewN hB _⟩
      case measure => simp [intOf]; omega
    · obtain rfl : k = n := by omega
      go_wp2
      go_ret
      exact ⟨rfl, hB⟩
set_option maxHeartbeats 12800000 in
set_option maxRecDepth 100000 in
theorem judgesStay_walk (a0 : Option Addr) (len0 cap0 : Nat) (z0 : List Int) (w : World) (w0 : IsRow .i64 w a0 len0 cap0 z0) (htab : Tb w) :
    Calls Tryz.prog 6 #[.slice a0 len0 cap0] w fun e w' => e = .returned (.bool true) ∧ Below w.heap.size w w' := by
  have hs2 := law_start2 w0
  clear w0
  generalize Zs.mk (z0.take len0) w.heap.size = zs at *
  obtain ⟨sA, sB⟩ := hs2
  have hL := sA.lim_le
  have hB0 : Below w.heap.size w ((w.alloc (.cells #[.slice a0 len0 cap0, .int .i64 0] 25)).alloc (.cells #[.slice a0 len0 cap0, .int .i64 0] 25)) := below_next (below_new w _) (below_new _ _)
  go_enter Tryz.func6, Tryz.ntmps6
  go_wp2_with fail
  generalize (w.alloc (.cells #[.slice a0 len0 cap0, .int .i64 0] 25)).alloc (.cells #[.slice a0 len0 cap0, .int .i64 0] 25) = w1 at *
  obtain ⟨RV, hRV⟩ : ∃ q, rightReportsV zs 9 6 0 = q := ⟨_, rfl⟩
  have hc1 := rightReportsF_c _ zs 0 9 w1 w sA (by omega) (by omega) htab hB0 (Nat.le_refl _)
  unfold RetRRpF at hc1
  rw [hRV] at hc1
  refine hc1.mono ?_; rintro e w2 ⟨A, n, c, rfl, o2, l2, hr0, hn9, a2, hk2, g2⟩
  have b2 := sB.other g2 hL (by omega)
  have hB2 := hB0.trans (grown_below g2 (Nat.le_refl _) hB0.size)
  have x2 : RRp w2 A n RV.1 := RN.of_own rpE_len o2 l2 (by omega)
  clear sA sB g2 hB0 o2 hc1
  have hc2 := rightReportsF_c _ zs 0 9 w2 w b2 (by omega) (by omega) htab hB2 (by omega)
  unfold RetRRpF at hc2
  rw [hRV] at hc2
  go_wp2_with fail
  refine hc2.mono ?_; rintro e w3 ⟨A3, n3, c3, rfl, o3, l3, _, _, b3, _, g3⟩
  have a3 := a2.other g3 (by omega) (by omega)
  have x3 : RRp w3 A n RV.1 := x2.keep (T := 25) (by decide) (b2.keep g3)
  have y3 : RRp w3 A3 n3 RV.1 := RN.of_own rpE_len o3 l3 (by omega)
  have hB3 := hB2.trans (grown_below g3 (by omega) hB2.size)
  clear a2 b2 g3 hB2 o3 hc2 x2 hRV
  obtain ⟨RS_, hRS⟩ : ∃ q, rightSeedsV zs 9 6 RV.2 = q := ⟨_, rfl⟩
  have hc3 := rightSeedsF_c _ zs RV.2 9 w3 w a3 (by omega) (by omega) htab hB3 (Nat.le_refl _)
  unfold RetRSF at hc3
  rw [hRS] at hc3
  go_wp2_with fail
  refine hc3.mono ?_; rintro e w4 ⟨A4, n4, c4, rfl, s4, hs0, hn4, a4, _, g4, _, _⟩
  have b4 := b3.other g4 (by omega) (by omega)
  have x4 : RRp w4 A n RV.1 := x3.keep (T := 25) (by decide) (a3.keep g4)
  have y4 : RRp w4 A3 n3 RV.1 := y3.keep (T := 25) (by decide) (a3.keep g4)
  have hB4 := hB3.trans (grown_below g4 (Nat.le_refl _) hB3.size)
  clear a3 b3 g4 hB3 hc3 x3 y3 a4
  have hc4 := rightSeedsF_c _ zs RV.2 9 w4 w b4 (by omega) (by omega) htab hB4 (by omega)
  unfold RetRSF at hc4
  rw [hRS] at hc4
  go_wp2_with fail
  refine hc4.mono ?_; rintro e w5 ⟨A5, n5, c5, rfl, s5, _, hn5, _, _, g5, _, _⟩
  have K : K53 w (fun v => (RRp v A n RV.1 ∧ RRp v A3 n3 RV.1) ∧ (RSd v A4 n4 RS_.1 ∧ RSd v A5 n5 RS_.1)) w5 := ⟨⟨⟨x4.keep (T := 25) (by decide) (b4.keep g5), y4.keep (T := 25) (by decide) (b4.keep g5)⟩, ⟨s4.keep (T := 25) (by decide) (b4.keep g5), s5⟩⟩, fun a b q B => ⟨⟨q.1.1.below B, q.1.2.below B⟩, ⟨q.2.1.below B, q.2.2.below B⟩⟩, hB4.trans (grown_below g5 (by omega) hB4.size)⟩
  clear b4 g5 hB4 hc4 x4 y4 s4 s5 htab hL hRS hk2
  obtain ⟨l, kl⟩ := RV
  obtain ⟨sd, ks⟩ := RS_
  dsimp only at *
  have hvd := vrd53 hr0
  have hrk := rank_right53 hs0 (by have := K.x.2.1.len; omega)
  have hrE : rankE sd [] = 0 := by unfold rankE; rw [if_neg (by simp [hs0])]; rfl
  have hwt : Hid (∀ x ∈ l, 1 ≤ x.wt) := Lib.hid (fun x hx => (rp1_ok ((rpErr_ok hr0).2.1 x hx)).2.2.2.1)
  have hMs := Lib.hid (fun E o h => mrg_self53 (l := l) (out := o) (E := E) hr0 h)
  have hMg := Lib.hid (fun W h => mergeRO_c A A n c n c l l W h h (by omega) (by omega))
  have hVd := Lib.hid (fun W h => verdictsO_c A n c l 100 W h (by omega))
  have hVr := Lib.hid (fun W h => verdictsOf_c A3 n3 c3 l 100 W h (by have := K.x.1.2.len; have := K.x.1.1.len; omega) hwt.out)
  rw [hvd, if_pos rfl] at hVd
  unfold RetVsO at hVd
  unfold RetV1 at hVr
  unfold RetMpO at hMg
  generalize vdsV l 100 (fun _ _ => false) = VD at *
  have hln := K.x.1.1.len
  clear hvd hr0 hwt
  go_wp2_with fail
  refine (hMg.out _ K.x.1.1).mono ?_; rintro e w6 ⟨A6, n6, c6, m6, E6, rfl, r6, o6, _, hm6, B6⟩
  obtain ⟨rfl, hml⟩ := hMs.out _ _ hm6
  obtain rfl : n6 = n := by have := r6.len; omega
  have hK5 := Lib.hid K
  have K6 := K.below B6
  have S6 : Sp53 w5 w5.heap.size 96 7 A6 n6 c6 w6 := ⟨⟨_, o6.1, o6⟩, B6⟩
  have hz6 := B6.size
  have hlt6 := Lib.hid (fun g (h : A6 = some ⟨g, 0, none⟩) => show g < w6.heap.size from by subst h; exact (o6.lt g rfl).2)
  clear K r6 o6 hm6 hml hMs hMg
  go_wp2_with fail
  refine (hVd.out _ K6.x.1.1).mono ?_; rintro e w7 ⟨A7, n7, c7, V7, rfl, r7, o7, wo7, hv7, B7⟩
  have S7 := S6.below hz6 B7
  have hz7 := B7.size
  have hn7 := r7.1.len
  subst hn7
  obtain ⟨bo, hbo⟩ : ∃ bo, 0 < V7.length → A7 = some ⟨bo, 0, none⟩ := by
    rcases Nat.eq_zero_or_pos V7.length with h | h
    · exact ⟨0, fun h9 => by omega⟩
    · obtain ⟨g9, h9⟩ := own_cap53 o7 h
      exact ⟨g9, fun _ => h9⟩
  obtain ⟨CL, hCLe⟩ : ∃ CL, V7.map (fun x => ((x.A, x.ids.length, x.c) : Option Addr × Nat × Nat)) = CL := ⟨_, rfl⟩
  have G7 : SpG w5 w5.heap.size bo 3 2 CL w7 := by
    subst hCLe
    refine ⟨fun i p h => ?_, fun p h => ?_, fun p h => ?_, B6.trans (B7.mono hz6)⟩
    · rw [List.getElem?_map] at h
      obtain ⟨x, hx, rfl⟩ := Option.map_eq_some_iff.1 h
      have hA := hbo (by have := lt_of_at hx; omega)
      have hi := lt_of_at hx
      subst hA
      rw [o7.cellAt (i * 3 + 2) (by omega)]
      exact flat_atC vxE_len V7 i 2 x hx (by decide)
    · obtain ⟨x, hx, rfl⟩ := List.mem_map.1 h
      have hA := hbo (List.length_pos_of_mem hx)
      subst hA
      rcases own_tyO o7 (wo7 x hx) (by decide) with h9 | h9
      · rw [h9]; simp
      · exact h9
    · obtain ⟨x, hx, rfl⟩ := List.mem_map.1 h
      exact ⟨_, by simp, own_mono (wo7 x hx) hz6, (r7.2 x hx).bd⟩
  have hCl := Lib.hid (show CL.length = V7.length by rw [← hCLe, List.length_map])
  have hbo' := Lib.hid hbo
  have hbw := Lib.hid (fun (h : 0 < V7.length) => show w6.heap.size ≤ bo from by have hA := hbo h; subst hA; exact (o7.lt bo rfl).1)
  have hzz7 := B7.size
  have hnb7 : V7.length ≤ 140737488355328 := r7.1.bd
  clear B7 o7 wo7 hv7 r7 hCLe hbo K6 B6
  go_wp2_with fail
  go_loopw [13, 54] (fun _ i wz => ∃ k : Nat, k ≤ n6 ∧ i = .int .i64 k ∧ Sp53 w5 w5.heap.size 96 7 A6 n6 c6 wz ∧ SpG w5 w5.heap.size bo 3 2 CL wz) (fun _ i _ => n6 - (intOf i).toNat)
  case atStart => exact ⟨0, Nat.zero_le _, rfl, S7, G7⟩
  case round =>
    clear S7 G7
    rename World => wz
    obtain ⟨k3, hk, rfl, S, G⟩ := hrel
    by_cases hlt : k3 < n6
    · obtain ⟨⟨xs, hxs, ho⟩, hB⟩ := S
      obtain ⟨g, rfl⟩ := own_cap53 ho (by omega)
      have c0 := ho.cellAt (k3 * 7 + 2) (by omega)
      have f0 := ho.frozenAt (k3 * 7 + 2)
      obtain ⟨v, hv⟩ := at_of_lt (l := xs) (k := k3 * 7 + 2) (by omega)
      rw [hv] at c0
      have hgb := (ho.lt g rfl).1
      have hgl := hlt6.out g rfl
      have S2 : Sp53 w5 w5.heap.size 96 7 (some ⟨g, 0, none⟩) n6 c6 (wz.setCell ⟨g, k3 * 7 + 2, none⟩ (.string ⟨#[115, 112, 111, 105, 108, 116]⟩)) := ⟨⟨_, by rw [List.length_set]; exact hxs, (ho.stored (k3 * 7 + 2) _).1⟩, hB.setCell hgb _⟩
      have G2 := G.other (o := k3 * 7 + 2) ho (fun h => by have := hbw.out (by rw [hCl.out] at h; exact h); omega) hgb (.string ⟨#[115, 112, 111, 105, 108, 116]⟩)
      clear ho hB hgb hgl hv hxs G
      go_wp2_with fail
      go_roundw
      case rel => exact ⟨k3 + 1, by omega, by go_num, S2, G2⟩
      case measure => simp [intOf]; omega
    · obtain rfl : k3 = n6 := by omega
      clear S hk hlt hlt6 hbw
      go_wp2_with fail
      go_loopw [14, 15, 64] (fun _ _ i wy => ∃ j : Nat, j ≤ V7.length ∧ i = .int .i64 j ∧ SpG w5 w5.heap.size bo 3 2 CL wy) (fun _ _ i _ => V7.length - (intOf i).toNat)
      case atStart => exact ⟨0, Nat.zero_le _, rfl, G⟩
      case round =>
        clear G
        rename World => wy
        obtain ⟨j, hj, rfl, S⟩ := hrel
        by_cases hlj : j < V7.length
        · obtain ⟨p, hp⟩ := at_of_lt (l := CL) (k := j) (by rw [hCl.out]; exact hlj)
          have hpm := List.mem_of_getElem? hp
          obtain ⟨xs0, _, _, hxn⟩ := S.wh p hpm
          obtain rfl := hbo'.out (by omega)
          have hCell := Lib.hid (fun W (S : SpG w5 w5.heap.size bo 3 2 CL W) => show W.cell? ⟨bo, j * 3 + 2, none⟩ = some (.slice p.1 p.2.1 p.2.2) from S.cell j p hp)
          have hWh := Lib.hid (fun W (S : SpG w5 w5.heap.size bo 3 2 CL W) => S.wh p hpm)
          obtain ⟨yA, yn, yc⟩ := p
          dsimp only at *
          have q2 := hCell.out _ S
          clear hp
          go_wp2_with fail
          clear q2
          go_loopw [15, 73] (fun _ i wz => ∃ q : Nat, q ≤ yn ∧ i = .int .i64 q ∧ SpG w5 w5.heap.size bo 3 2 CL wz) (fun _ i _ => yn - (intOf i).toNat)
          case atStart => exact ⟨0, Nat.zero_le _, rfl, S⟩
          case round =>
            clear S
            rename World => wz
            obtain ⟨q, hq, rfl, S⟩ := hrel
            by_cases hlq : q < yn
            · have q2 := hCell.out _ S
              obtain ⟨ys, hys, hyo, _⟩ := hWh.out _ S
              obtain ⟨gy, rfl⟩ := own_cap53 hyo (by omega)
              have c0 := hyo.cellAt q (by omega)
              have f0 := hyo.frozenAt q
              obtain ⟨v9, hv⟩ := at_of_lt (l := ys) (k := q) (by omega)
              rw [hv] at c0
              have S2 := S.spoil (o := q) hpm hyo (.string ⟨#[115, 112, 111, 105, 108, 116]⟩)
              clear hyo hv hys S
              go_wp2_with fail
              go_roundw
              case rel => exact ⟨q + 1, by omega, by go_num, S2⟩
              case measure => simp [intOf]; omega
            · obtain rfl : q = yn := by omega
              go_wp2
              go_roundw
              case rel => exact ⟨j + 1, by omega, by go_num, S⟩
              case measure => simp [intOf]; omega
        · obtain rfl : j = V7.length := by omega
          have K := hK5.out.below S.bel
          clear S hj hlj hK5 S6 hCl hbo'
          have hRk := Lib.hid (Rank53_c A4 none n4 c4 0 0 sd [] wy K.x.2.1 (RN.nil_ _ _ _ _ _) (by omega))
          rw [hrE] at hRk
          unfold RetRk at hRk
          go_wp2_with fail
          refine hRk.out.mono ?_; rintro e w8 ⟨A8, n8, c8, rfl, r8, B8, _⟩
          replace K := K.below B8
          clear B8 hRk hrE
          have hMd := Lib.hid (medals_c A8 n8 c8 _ w8 r8)
          rw [hrk] at hMd
          go_wp2_with fail
          refine hMd.out.mono ?_; rintro e w9 (⟨h9, _⟩ | ⟨_, A9, rfl, hmd, B9⟩)
          · exact absurd rfl h9
          obtain ⟨b9, L9, rfl, hbb9, hts, _, hL3, hLn⟩ := hmd
          obtain ⟨C9, hC9⟩ : ∃ CL, L9.map (fun x => ((x.A, x.l.length, x.c) : Option Addr × Nat × Nat)) = CL := ⟨_, rfl⟩
          have G9 : SpG w8 w8.heap.size b9 1 0 C9 w9 := by
            subst hC9
            refine ⟨fun i p h => ?_, fun p h => ?_, fun p h => ?_, B9⟩
            · rw [List.getElem?_map] at h
              obtain ⟨x, hx, rfl⟩ := Option.map_eq_some_iff.1 h
              rw [Nat.mul_one, Nat.add_zero]
              exact hts.cell hx
            · obtain ⟨x, hx, rfl⟩ := List.mem_map.1 h
              obtain ⟨i, hi⟩ := List.getElem?_of_mem hx
              exact own_neH (hts.own i x hi) hts.row (by decide)
            · obtain ⟨x, hx, rfl⟩ := List.mem_map.1 h
              obtain ⟨i, hi⟩ := List.getElem?_of_mem hx
              exact ⟨_, strs_lenH _, hts.own i x hi, by have := hLn x hx; show x.l.length ≤ _; omega⟩
          have hCl9 := Lib.hid (show C9.length = 3 by rw [← hC9, List.length_map]; exact hL3)
          have hK8 := Lib.hid K
          clear hts hL3 hLn hC9 hbb9 B9 hMd hrk r8 K
          go_wp2_with fail
          go_loopw [18, 19, 99] (fun _ _ i wy => ∃ j : Nat, j ≤ 3 ∧ i = .int .i64 j ∧ SpG w8 w8.heap.size b9 1 0 C9 wy) (fun _ _ i _ => 3 - (intOf i).toNat)
          case atStart => exact ⟨0, Nat.zero_le _, rfl, G9⟩
          case round =>
            clear G9
            rename World => wy
            obtain ⟨j, hj, rfl, S⟩ := hrel
            by_cases hlj : j < 3
            · obtain ⟨p, hp⟩ := at_of_lt (l := C9) (k := j) (by rw [hCl9.out]; exact hlj)
              have hpm := List.mem_of_getElem? hp
              obtain ⟨xs0, _, _, hxn⟩ := S.wh p hpm
              have hCell := Lib.hid (fun W (S : SpG w8 w8.heap.size b9 1 0 C9 W) => show W.cell? ⟨b9, j, none⟩ = some (.slice p.1 p.2.1 p.2.2) from by have h9 := S.cell j p hp; rwa [Nat.mul_one, Nat.add_zero] at h9)
              have hWh := Lib.hid (fun W (S : SpG w8 w8.heap.size b9 1 0 C9 W) => S.wh p hpm)
              obtain ⟨yA, yn, yc⟩ := p
              dsimp only at *
              have q2 := hCell.out _ S
              have hlj3 : (j : Int) < 3 := by omega
              clear hp
              go_wp2_with fail
              clear q2
              go_loopw [19, 107] (fun _ i wz => ∃ q : Nat, q ≤ yn ∧ i = .int .i64 q ∧ SpG w8 w8.heap.size b9 1 0 C9 wz) (fun _ i _ => yn - (intOf i).toNat)
              case atStart => exact ⟨0, Nat.zero_le _, rfl, S⟩
              case round =>
                clear S
                rename World => wz
                obtain ⟨q, hq, rfl, S⟩ := hrel
                by_cases hlq : q < yn
                · have q2 := hCell.out _ S
                  obtain ⟨ys, hys, hyo, _⟩ := hWh.out _ S
                  obtain ⟨gy, rfl⟩ := own_cap53 hyo (by omega)
                  have c0 := hyo.cellAt q (by omega)
                  have f0 := hyo.frozenAt q
                  obtain ⟨v9, hv⟩ := at_of_lt (l := ys) (k := q) (by omega)
                  rw [hv] at c0
                  have S2 := S.spoil (o := q) hpm hyo (.string ⟨#[115, 112, 111, 105, 108, 116]⟩)
                  clear hyo hv hys S
                  go_wp2_with fail
                  go_roundw
                  case rel => exact ⟨q + 1, by omega, by go_num, S2⟩
                  case measure => simp [intOf]; omega
                · obtain rfl : q = yn := by omega
                  go_wp2
                  go_roundw
                  case rel => exact ⟨j + 1, by omega, by go_num, S⟩
                  case measure => simp [intOf]; omega
            · obtain rfl : j = 3 := by omega
              have K := hK8.out.below S.bel
              clear S hj hlj hK8 hCl9
              go_wp2_with fail
              refine (hVd.out _ K.x.1.1).mono ?_; rintro e w10 ⟨A10, n10, c10, V10, rfl, r10, _, _, hv10, B10⟩
              replace K := K.below B10
              clear B10 hVd
              go_wp2_with fail
              refine (equalRp_c A A3 k3 c n3 c3 l l _ K.x.1.1 K.x.1.2).mono ?_; rintro e w11 ⟨rfl, q11, rfl⟩
              rw [decide_eq_true (rfl : l = l)]
              replace K := K.below (below_drewN (Below.refl _ _) q11)
              replace r10 := r10.below (below_drewN (Below.refl _ _) q11)
              go_wp2_with fail
              refine (equalSd53_c A4 A5 n4 c4 n5 c5 sd _ K.x.2.1 K.x.2.2).mono ?_; rintro e w12 ⟨rfl, B12⟩
              replace K := K.below B12
              replace r10 := r10.below B12
              clear B12
              go_wp2_with fail
              refine (hVr.out _ K.x.1.2).mono ?_; rintro e w13 ⟨A13, n13, c13, V13, rfl, r13, hv13, B13⟩
              replace K := K.below B13
              replace r10 := r10.below B13
              have hEq := Lib.hid (equalV_c A10 A13 n10 c10 n13 c13 V10 V13 w13 r10 r13 (hv10.trans hv13.symm))
              clear B13 hVr r10 r13 hv10 hv13
              go_wp2_with fail
              refine hEq.out.mono ?_; rintro e w14 ⟨rfl, B14⟩
              replace K := K.below B14
              clear B14 hEq
              go_wp2_with fail
              refine (ready_c _).mono ?_; rintro e wM ⟨rfl, BM⟩
              have hB := (K.below BM).bel
              go_wp2
              go_ret
              exact ⟨rfl, hB⟩
end Go.Proofs.YtklggnglaeagpaaGreatDoor
