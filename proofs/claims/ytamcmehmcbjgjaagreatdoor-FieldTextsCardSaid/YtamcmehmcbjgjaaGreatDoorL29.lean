/- FieldTexts: race.Text and race.Read answer as the reference says: the walk. -/
import Derived.Test.YtamcmehmcbjgjaaGreatDoorFldR
import Derived.Test.YtamcmehmcbjgjaaGreatDoorTxtY
import Derived.Test.YtamcmehmcbjgjaaGreatDoorSwEq
import Derived.Test.YtamcmehmcbjgjaaGreatDoorL02A
import Derived.Test.YtamcmehmcbjgjaaGreatDoorDraws
import Derived.Deep.DeepCutAuto
namespace Go.Proofs.YtamcmehmcbjgjaaGreatDoor
open Go.RowKit Go.Lib
set_option linter.unusedVariables false

theorem mx_of_shape {W : World} (h : W.ShapedOpen Tryz.prog) : Mx W := Tryz.laysM145.s1_3 W h
def txA (r : Race) (l : List Sw) : ByteArray := if fieldErr r l = 0 then ⟨(fdText (l.map swD)).toArray⟩ else ⟨#[]⟩
set_option maxHeartbeats 1600000 in
set_option maxRecDepth 100000 in
theorem raceTextE_c (r : Race) (A : Option Addr) (n c : Nat) (l : List Sw) (w : World) (h : RSw w A n l) (h0 : fieldErr r l ≠ 0) :
    Calls Tryz.prog 9 #[r.val, .slice A n c] w fun e w' => e = .returned (.tuple #[.string ⟨#[]⟩, .int .i64 (fieldErr r l)]) ∧ Below w.heap.size w w' := by
  have hCF := Lib.hid (fun W h => checkField_c r A n c l W h)
  have hb0 := heap_alloc_new w (.cells r.cells 27)
  have hB0 := below_new w (.cells r.cells 27)
  have h1 := h.below hB0
  have ht : (fieldErr r l != 0) = true := by simpa using h0
  generalize fieldErr r l = FE at *
  clear h h0
  obtain ⟨key, metres, stroke, course, legs, sex, young, old⟩ := r
  dsimp only [Race.val, Race.cells] at *
  have z0 := (blk_facts hb0).1 0
  have z1 := (blk_facts hb0).1 1
  have z2 := (blk_facts hb0).1 2
  have z3 := (blk_facts hb0).1 3
  have z4 := (blk_facts hb0).1 4
  have z5 := (blk_facts hb0).1 5
  have z6 := (blk_facts hb0).1 6
  have z7 := (blk_facts hb0).1 7
  go_enter Tryz.func9, Tryz.ntmps9
  go_wp2_with fail
  refine (hCF.out _ h1).mono ?_; rintro e wS ⟨rfl, B1⟩
  have hB := below_next hB0 B1
  clear z0 z1 z2 z3 z4 z5 z6 z7 hCF h1
  go_wp2
  go_ret2
  exact ⟨rfl, hB⟩
theorem raceTextA_c (r : Race) (A : Option Addr) (n c : Nat) (l : List Sw) (w : World) (h : RSw w A n l) (hT : Tb w) :
    Calls Tryz.prog 9 #[r.val, .slice A n c] w fun e w' => e = .returned (.tuple #[.string (txA r l), .int .i64 (fieldErr r l)]) ∧ Below w.heap.size w w' := by
  by_cases h0 : fieldErr r l = 0
  · obtain ⟨t1, t2, _⟩ := field_txt h0 (fun x hx => (h.2 x hx).len)
    refine (raceText_c r A n c l w h hT (by omega) t2 h0).mono ?_
    rintro e w' ⟨rfl, B⟩
    exact ⟨by unfold txA; rw [if_pos h0, h0], B⟩
  · refine (raceTextE_c r A n c l w h h0).mono ?_
    rintro e w' ⟨rfl, B⟩
    exact ⟨by unfold txA; rw [if_neg h0], B⟩
theorem rd_det {r : Race} {t : List UInt8} {w1 w2 v1 v2 : World} {e1 e2 : Ending} (h0 : raceErr r = 0) (h1 : RetRd r t w1 e1 v1) (h2 : RetRd r t w2 e2 v2) : ∃ (A A' : Option Addr) (n c n' c' : Nat) (i E : Int) (l l' : List Sw), e1 = .returned (.tuple #[.slice A n c, .int .i64 i, .int .i64 E]) ∧ e2 = .returned (.tuple #[.slice A' n' c', .int .i64 i, .int .i64 E]) ∧ RSw v1 A n l ∧ RSw v2 A' n' l' ∧ l.map swD = l'.map swD ∧ Below w1.heap.size w1 v1 ∧ Below w2.heap.size w2 v2 := by
  obtain ⟨B1, ⟨h9, _⟩ | ⟨_, k1, he1⟩ | ⟨_, k1, a1, ha1, hr1⟩⟩ := h1
  · exact absurd h0 h9
  · obtain ⟨B2, ⟨h9, _⟩ | ⟨_, k2, he2⟩ | ⟨_, k2, a2, ha2, hr2⟩⟩ := h2
    · exact absurd h0 h9
    · exact ⟨none, none, 0, 0, 0, 0, _, _, [], [], he1, he2, RSw.nil_ _, RSw.nil_ _, rfl, B1, B2⟩
    · rw [k1] at k2; cases k2
  · obtain ⟨B2, ⟨h9, _⟩ | ⟨_, k2, he2⟩ | ⟨_, k2, a2, ha2, hr2⟩⟩ := h2
    · exact absurd h0 h9
    · rw [k1] at k2; cases k2
    · have hd : a1.map swD = a2.map swD := ha1.trans ha2.symm
      have hE := fieldErr_dat r hd
      rcases hr1 with ⟨n1, he1⟩ | ⟨n1, A, n, c, he1, hs1⟩
      · rcases hr2 with ⟨n2, he2⟩ | ⟨n2, A', n', c', he2, hs2⟩
        · exact ⟨none, none, 0, 0, 0, 0, _, _, [], [], he1, by rw [hE]; exact he2, RSw.nil_ _, RSw.nil_ _, rfl, B1, B2⟩
        · exact absurd (hE.trans n2) n1
      · rcases hr2 with ⟨n2, he2⟩ | ⟨n2, A', n', c', he2, hs2⟩
        · exact absurd (hE.symm.trans n1) n2
        · exact ⟨A, A', n, c, n', c', _, _, a1, a2, he1, he2, hs1, hs2, hd, B1, B2⟩
theorem rd_one {r : Race} {t : List UInt8} {w v : World} {e : Ending} (h0 : raceErr r = 0) (h : RetRd r t w e v) : ∃ (A : Option Addr) (n c : Nat) (i E : Int), e = .returned (.tuple #[.slice A n c, .int .i64 i, .int .i64 E]) ∧ Below w.heap.size w v := by
  obtain ⟨A, A', n, c, n', c', i, E, l, l', h1, _, _, _, _, B, _⟩ := rd_det h0 h h
  exact ⟨A, n, c, i, E, h1, B⟩
theorem rd_two {r : Race} {t : List UInt8} {w1 w2 v1 v2 : World} {A : Option Addr} {n c : Nat} {i E : Int} {e2 : Ending} (h0 : raceErr r = 0) (h1 : RetRd r t w1 (.returned (.tuple #[.slice A n c, .int .i64 i, .int .i64 E])) v1) (h2 : RetRd r t w2 e2 v2) : ∃ (A' : Option Addr) (n' c' : Nat) (l l' : List Sw), e2 = .returned (.tuple #[.slice A' n' c', .int .i64 i, .int .i64 E]) ∧ RSw v1 A n l ∧ RSw v2 A' n' l' ∧ l.map swD = l'.map swD ∧ Below w2.heap.size w2 v2 := by
  obtain ⟨A1, A', n1, c1, n', c', i1, E1, l, l', g1, g2, g3, g4, g5, _, B⟩ := rd_det h0 h1 h2
  simp at g1
  obtain ⟨⟨rfl, rfl, rfl⟩, rfl, rfl⟩ := g1
  exact ⟨A', n', c', l, l', g2, g3, g4, g5, B⟩
structure K29 (w : World) (X : World → Prop) (wx : World) : Prop where
  x : X wx
  kp : ∀ a b, X a → Below a.heap.size a b → X b
  bel : Below w.heap.size w wx
theorem K29.below {w wx w' : World} {X : World → Prop} (h : K29 w X wx) (B : Below wx.heap.size wx w') : K29 w X w' := ⟨h.kp _ _ h.x B, h.kp, below_next h.bel B⟩
set_option maxHeartbeats 12800000 in
set_option maxRecDepth 100000 in
theorem fieldTexts_walk (a0 : Option Addr) (len0 cap0 : Nat) (z0 : List Int) (w : World) (w0 : IsRow .i64 w a0 len0 cap0 z0) (hmx : Mx w) (htab : Tb w) (hex : Ex w) :
    Calls Tryz.prog 3 #[.slice a0 len0 cap0] w fun e w' => e = .returned (.bool true) ∧ Below w.heap.size w w' := by
  have hs := law_start w0
  clear w0
  generalize Zs.mk (z0.take len0) w.heap.size = zs at *
  go_enter Tryz.func3, Tryz.ntmps3
  go_wp2_with fail
  have hs' : St (w.alloc (.cells #[.slice a0 len0 cap0, .int .i64 0] 25)) w.heap.size zs 0 := hs
  refine (fielded_c _ zs 0 _ hs' (by omega)).mono ?_; rintro e w1 ⟨r, A, n, c, l, k1, rfl, hF, hn4, s1, hk1, g1⟩
  have hB : Below w.heap.size w w1 := (below_new w _).trans (grown_below g1 (Nat.le_refl _) (by simp))
  clear hs hs' g1
  have s2 := s1.alloc (.cells r.cells 27)
  have K : K29 w (fun v => RSw v A n l ∧ v.heap[w1.heap.size]? = some (.cells r.cells 27 (0, 0))) (w1.alloc (.cells r.cells 27)) := ⟨⟨hF.alloc _, heap_alloc_new w1 _⟩, fun a b q B => ⟨⟨q.1.1.below B, fun x hx => (q.1.2 x hx).below B⟩, blk_below q.2 B⟩, hB.alloc hB.size _⟩
  generalize hb4 : w1.heap.size = b4 at *
  clear s1 hB hF
  have hTx := Lib.hid (fun W h hT => raceTextA_c r A n c l W h hT)
  have hTx0 := Lib.hid (fun (h : fieldErr r l = 0) => show txA r l = ⟨(fdText (l.map swD)).toArray⟩ by unfold txA; rw [if_pos h])
  have hTx1 := Lib.hid (fun (h : fieldErr r l ≠ 0) => show txA r l = ⟨#[]⟩ by unfold txA; rw [if_neg h])
  have hSL := Lib.hid (fun (W : World) (hR : RSw W A n l) (hT : Tb W) (h : fieldErr r l = 0) => show Calls Tryz.prog 10 #[.slice A n c] W fun e w' => e = .returned (.string (txA r l)) ∧ Below W.heap.size W w' by
    obtain ⟨t1, t2, _⟩ := field_txt h (fun x hx => (hR.2 x hx).len)
    rw [hTx0.out h]
    exact swimLines_c A n c l W hR hT (by omega) t2)
  have hRf := Lib.hid (fun W => raceFault_c r W)
  have hRd := Lib.hid (fun s W hs hM => read_c r s W hs hM)
  have hRdE := Lib.hid (fun (h : raceErr r ≠ 0) (s : List UInt8) (w : World) (e : Ending) (w' : World) (q : RetRd r s w e w') => show e = .returned (.tuple #[.slice none 0 0, .int .i64 0, .int .i64 (raceErr r)]) ∧ Below w.heap.size w w' by
    obtain ⟨B, ⟨_, he⟩ | ⟨h9, _⟩ | ⟨h9, _⟩⟩ := q
    · exact ⟨he, B⟩
    · exact absurd h9 h
    · exact absurd h9 h)
  have hRr := Lib.hid (fun s W hs hM hTb hEx h00 => swimsRead_c r s W hs hM hTb hEx h00)
  have hD1 := Lib.hid (fun (h0 : raceErr r = 0) t w1 e1 v1 h => rd_one (r := r) (t := t) (w := w1) (v := v1) (e := e1) h0 h)
  have hD2 := Lib.hid (fun (h0 : raceErr r = 0) t w1 v1 w2 e2 v2 A n c i E h1 h2 => rd_two (r := r) (t := t) (w1 := w1) (w2 := w2) (v1 := v1) (v2 := v2) (A := A) (n := n) (c := c) (i := i) (E := E) (e2 := e2) h0 h1 h2)
  have hFs := Lib.hid (fun (hr : raceErr r = 0) k2 (W : World) (h : St W w.heap.size zs k2) (hk : k2 + 4000 ≤ 1099511627776) (hb : Below w.heap.size w W) => fieldString_c w.heap.size zs k2 r W w h hk hr (fun l hl => rightF_bd hr hl) htab hb (Nat.le_refl _))
  generalize txA r l = TX at *
  generalize fieldErr r l = FE at *
  generalize raceErr r = RE at *
  generalize RetRd r = RR at *
  obtain ⟨key, metres, stroke, course, legs, sex, young, old⟩ := r
  dsimp only [Race.val, Race.cells] at *
  have z0 := (blk_facts K.x.2).1 0
  have z1 := (blk_facts K.x.2).1 1
  have z2 := (blk_facts K.x.2).1 2
  have z3 := (blk_facts K.x.2).1 3
  have z4 := (blk_facts K.x.2).1 4
  have z5 := (blk_facts K.x.2).1 5
  have z6 := (blk_facts K.x.2).1 6
  have z7 := (blk_facts K.x.2).1 7
  go_wp2_with fail
  refine (hTx.out _ K.x.1 (htab.below K.bel)).mono ?_; rintro e w5 ⟨rfl, B5⟩
  have s5 := s2.below B5
  replace K := K.below B5
  clear z0 z1 z2 z3 z4 z5 z6 z7 s2 B5 hTx
  go_upto_region 4 with (fail)
  go_cut [55] (fun s55 wx => s55 = .bool false ∧ St wx w.heap.size zs k1 ∧ K29 w (fun v => RSw v A n l ∧ v.heap[b4]? = some (.cells #[.string key, .int .i64 metres, .int .i64 stroke, .int .i64 course, .int .i64 legs, .int .i64 sex, .int .i64 young, .int .i64 old] 27 (0, 0))) wx)
  case first =>
    clear hRf hRd hRdE hRr hD1 hD2 hFs
    by_cases h0 : FE = 0
    · have e0 := hTx0.out h0
      have hSL1 := Lib.hid (hSL.out _ K.x.1 (htab.below K.bel) h0)
      have q1 : (TX.toList == TX.toList) = true := beq_self_eq_true _
      have e1 : (FE == 0) = true := by simpa using h0
      have e2 : (FE != 0) = false := by simpa using h0
      have e3 : (FE == FE) = true := beq_self_eq_true _
      have e4 : (FE != FE) = false := by simp
      clear h0 hTx0 hTx1 hSL e0
      go_wp2_with fail
      refine hSL1.out.mono ?_; rintro e w6 ⟨rfl, B6⟩
      have s6 := s5.below B6
      replace K := K.below B6
      clear s5 B6 hSL1
      go_wp2
      go_meet
      case rel => exact ⟨rfl, s6, K⟩
    · have e0 := hTx1.out h0
      have e1 : (FE == 0) = false := by simpa using h0
      have e2 : (FE != 0) = true := by simpa using h0
      have e3 : (FE == FE) = true := beq_self_eq_true _
      have e4 : (FE != FE) = false := by simp
      subst e0
      clear h0 hTx0 hTx1 hSL
      go_wp2
      go_meet
      case rel => exact ⟨rfl, s5, K⟩
  case rest =>
    clear s5 K hTx0 hTx1 hSL
    rename World => wb
    obtain ⟨rfl, s6, K⟩ := hcut
    have z0 := (blk_facts K.x.2).1 0
    have z1 := (blk_facts K.x.2).1 1
    have z2 := (blk_facts K.x.2).1 2
    have z3 := (blk_facts K.x.2).1 3
    have z4 := (blk_facts K.x.2).1 4
    have z5 := (blk_facts K.x.2).1 5
    have z6 := (blk_facts K.x.2).1 6
    have z7 := (blk_facts K.x.2).1 7
    go_wp2_with fail
    refine (hRf.out _).mono ?_; rintro e w7 ⟨rfl, B7⟩
    have s7 := s6.below B7
    replace K := K.below B7
    clear z0 z1 z2 z3 z4 z5 z6 z7 s6 B7 hRf
    have z0 := (blk_facts K.x.2).1 0
    have z1 := (blk_facts K.x.2).1 1
    have z2 := (blk_facts K.x.2).1 2
    have z3 := (blk_facts K.x.2).1 3
    have z4 := (blk_facts K.x.2).1 4
    have z5 := (blk_facts K.x.2).1 5
    have z6 := (blk_facts K.x.2).1 6
    have z7 := (blk_facts K.x.2).1 7
    by_cases hr : RE = 0
    rotate_left
    · have e2 : (RE != 0) = true := by simpa using hr
      have hRdE1 := Lib.hid (hRdE.out hr)
      have hRd1 := Lib.hid (hRd.out ⟨#[115, 97, 32, 49, 44, 50, 10]⟩ w7 (by decide) (hmx.below K.bel))
      have e3 : (RE == RE) = true := beq_self_eq_true _
      clear hr hRdE hRd hRr hD1 hD2 hFs
      go_wp2_with fail
      refine hRd1.out.mono ?_; rintro e w8 hrd
      obtain ⟨rfl, B8⟩ := hRdE1.out _ _ _ _ hrd
      have hB8 := below_next K.bel B8
      clear z0 z1 z2 z3 z4 z5 z6 z7 hRd1 hRdE1 hrd B8 K s7
      go_wp2_with fail
      refine (raced_c _).mono ?_; rintro e wM ⟨rfl, BM⟩
      have hB := below_next hB8 BM
      go_wp2
      go_ret
      exact ⟨rfl, hB⟩
    · have hFs7 := Lib.hid (hFs.out hr k1 w7 s7 (by omega) K.bel)
      have hD1r := Lib.hid (hD1.out hr)
      have hD2r := Lib.hid (hD2.out hr)
      have hRr1 := Lib.hid (fun s W hs hM hTb hEx => hRr.out s W hs hM hTb hEx hr)
      have e2 : (RE != 0) = false := by simpa using hr
      unfold RetSt at hFs7
      clear hr hD1 hD2 hRr hFs hRdE
      go_wp2_with fail
      refine hFs7.out.mono ?_; rintro e w8 ⟨t, k8, rfl, ht8, s8, _, g8⟩
      have hF8 := K.x.1
      have hb8 := blk_stream K.x.2 s7 g8 (by decide)
      have hB8 := K.bel.trans (grown_below g8 (Nat.le_refl _) K.bel.size)
      have hRd8 := Lib.hid (hRd.out t w8 (by omega) (hmx.below hB8))
      clear z0 z1 z2 z3 z4 z5 z6 z7 s7 K g8 hFs7 hRd s8 hF8
      have z0 := (blk_facts hb8).1 0
      have z1 := (blk_facts hb8).1 1
      have z2 := (blk_facts hb8).1 2
      have z3 := (blk_facts hb8).1 3
      have z4 := (blk_facts hb8).1 4
      have z5 := (blk_facts hb8).1 5
      have z6 := (blk_facts hb8).1 6
      have z7 := (blk_facts hb8).1 7
      go_wp2_with fail
      refine hRd8.out.mono ?_; rintro e w9 hrd
      obtain ⟨A9, n9, c9, i9, E9, rfl, B9⟩ := hD1r.out _ _ _ _ hrd
      have hrd' := Lib.hid hrd
      have hb9 := blk_below hb8 B9
      have hB9 := below_next hB8 B9
      have hRr9 := Lib.hid (hRr1.out t w9 (by omega) (hmx.below hB9) (htab.below hB9) (hex.below hB9))
      clear z0 z1 z2 z3 z4 z5 z6 z7 hb8 hB8 B9 hRd8 hrd hRr1 hD1r
      have z0 := (blk_facts hb9).1 0
      have z1 := (blk_facts hb9).1 1
      have z2 := (blk_facts hb9).1 2
      have z3 := (blk_facts hb9).1 3
      have z4 := (blk_facts hb9).1 4
      have z5 := (blk_facts hb9).1 5
      have z6 := (blk_facts hb9).1 6
      have z7 := (blk_facts hb9).1 7
      go_wp2_with fail
      refine hRr9.out.mono ?_; rintro e w10 hrd2
      obtain ⟨A10, n10, c10, l9, l10, rfl, rs9, rs10, hd, B10⟩ := hD2r.out _ _ _ _ _ _ _ _ _ _ _ hrd'.out hrd2
      have hB10 := below_next hB9 B10
      have rs9' := rs9.below B10
      have hEq := Lib.hid (equalSwF_c A9 A10 n9 c9 n10 c10 l9 l10 w10 rs9' rs10 hd)
      have e5 : (E9 == E9) = true := beq_self_eq_true _
      have e6 : (i9 == i9) = true := beq_self_eq_true _
      clear z0 z1 z2 z3 z4 z5 z6 z7 hb9 hB9 B10 hRr9 hrd' hrd2 hD2r rs9 rs10 rs9' hd
      go_wp2_with fail
      refine hEq.out.mono ?_; rintro e w11 ⟨rfl, B11⟩
      have hB11 := below_next hB10 B11
      clear hEq B11 hB10
      go_wp2_with fail
      refine (raced_c _).mono ?_; rintro e wM ⟨rfl, BM⟩
      have hB := below_next hB11 BM
      go_wp2
      go_ret
      exact ⟨rfl, hB⟩
end Go.Proofs.YtamcmehmcbjgjaaGreatDoor
