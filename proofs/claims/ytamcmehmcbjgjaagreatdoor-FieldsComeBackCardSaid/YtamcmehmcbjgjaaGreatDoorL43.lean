/- FieldsComeBack: a field that is written is read as it was; what is read is written so: the walk. -/
import Derived.Test.YtamcmehmcbjgjaaGreatDoorFldS
import Derived.Test.YtamcmehmcbjgjaaGreatDoorTxtY
import Derived.Test.YtamcmehmcbjgjaaGreatDoorSwEq
import Derived.Test.YtamcmehmcbjgjaaGreatDoorReady
namespace Go.Proofs.YtamcmehmcbjgjaaGreatDoor
open Go.RowKit Go.Lib
set_option linter.unusedVariables false

theorem mx_of_shape {W : World} (h : W.ShapedOpen Tryz.prog) : Mx W := Tryz.laysM145.s1_3 W h
theorem back43 {r : Race} {l : List Sw} {w w' : World} {e : Ending} (h0 : fieldErr r l = 0) (hn : ∀ x ∈ l, x.sp.length = x.n) (h : RetRd r (fdText (l.map swD)) w e w') : ∃ A n c acc, e = .returned (.tuple #[.slice A n c, .int .i64 0, .int .i64 0]) ∧ RSw w' A n acc ∧ l.map swD = acc.map swD ∧ Below w.heap.size w w' := by
  obtain ⟨_, h2, h3⟩ := field_txt h0 hn
  obtain ⟨k1, k2⟩ := fd_read_text (l := l.map swD) fun d hd => by
    obtain ⟨x, hx, rfl⟩ := List.mem_map.1 hd
    refine ⟨(h3 x hx).1, (h3 x hx).2, fun y hy => ?_⟩
    have := (h2 x hx).2 y hy
    show y.natAbs < 10 ^ 6
    have e6 : (10 : Nat) ^ 6 = 1000000 := rfl
    omega
  obtain ⟨B, ⟨h9, _⟩ | ⟨_, h9, _⟩ | ⟨_, _, acc, ha, ⟨h9, _⟩ | ⟨_, A, n, c, he, hr⟩⟩⟩ := h
  · exact absurd (fieldErr_ok h0).1 h9
  · rw [k1] at h9; cases h9
  · rw [k2] at ha
    rw [fieldErr_dat r ha] at h9
    exact absurd h0 h9
  · rw [k2] at ha
    exact ⟨A, n, c, acc, he, hr, ha.symm, B⟩
theorem any43 {r : Race} {t : ByteArray} {w w' : World} {e : Ending} (h0 : raceErr r = 0) (h : RetRd r t.data.toList w e w') : Below w.heap.size w w' ∧ ((∃ i E : Int, E ≠ 0 ∧ e = .returned (.tuple #[.slice none 0 0, .int .i64 i, .int .i64 E])) ∨ ∃ A n c acc, e = .returned (.tuple #[.slice A n c, .int .i64 0, .int .i64 0]) ∧ RSw w' A n acc ∧ fieldErr r acc = 0 ∧ (⟨(fdText (acc.map swD)).toArray⟩ : ByteArray) = t) := by
  obtain ⟨B, ⟨h9, _⟩ | ⟨_, h9, he⟩ | ⟨_, h8, acc, ha, ⟨h9, he⟩ | ⟨hf, A, n, c, he, hr⟩⟩⟩ := h
  · exact absurd h0 h9
  · exact ⟨B, .inl ⟨_, 9, by decide, he⟩⟩
  · exact ⟨B, .inl ⟨0, _, h9, he⟩⟩
  · exact ⟨B, .inr ⟨A, n, c, acc, he, hr, hf, by rw [ha, fd_text_read h8]⟩⟩
structure K43 (w : World) (X : World → Prop) (wx : World) : Prop where
  x : X wx
  kp : ∀ a b, X a → Below a.heap.size a b → X b
  bel : Below w.heap.size w wx
theorem K43.below {w wx w' : World} {X : World → Prop} (h : K43 w X wx) (B : Below wx.heap.size wx w') : K43 w X w' := ⟨h.kp _ _ h.x B, h.kp, below_next h.bel B⟩
set_option maxHeartbeats 12800000 in
set_option maxRecDepth 100000 in
theorem fieldsComeBack_walk (a0 : Option Addr) (len0 cap0 : Nat) (z0 : List Int) (w : World) (w0 : IsRow .i64 w a0 len0 cap0 z0) (hmx : Mx w) (htab : Tb w) (hex : Ex w) :
    Calls Tryz.prog 4 #[.slice a0 len0 cap0] w fun e w' => e = .returned (.bool true) ∧ Below w.heap.size w w' := by
  have hs := law_start w0
  clear w0
  generalize Zs.mk (z0.take len0) w.heap.size = zs at *
  have hB0 := below_new w (.cells #[.slice a0 len0 cap0, .int .i64 0] 25)
  go_enter Tryz.func4, Tryz.ntmps4
  go_wp2_with fail
  refine (plainRace_c w.heap.size zs 0 _ hs (by omega)).mono ?_; rintro e w1 ⟨rfl, s1, g1⟩
  rw [plainRace_2] at s1
  have hok := plainRace_ok zs 0
  have hRfE := fun (l : List Sw) (h : RightF zs (plainRace zs 0).1 l) => right_field h
  generalize (plainRace zs 0).1 = r at *
  have hB1 := hB0.trans (grown_below g1 (Nat.le_refl _) hB0.size)
  have hRi := Lib.hid (fun W h => rightField_c w.heap.size zs (0 + 9) r W h (by omega) hok)
  have hFs := Lib.hid (fun k2 (W : World) (h : St W w.heap.size zs k2) (hk : k2 + 4000 ≤ 1099511627776) (hb : Below w.heap.size w W) => fieldString_c w.heap.size zs k2 r W w h hk hok (fun l hl => ⟨(field_txt0 (hRfE l hl)).1, fun x hx => ((field_txt0 (hRfE l hl)).2 x hx).2⟩) htab hb (Nat.le_refl _))
  have hRfE' := Lib.hid hRfE
  have hTx := Lib.hid (fun A n c l W h hT hS hx h0 => raceText_c r A n c l W h hT hS hx h0)
  have hRd := Lib.hid (fun s W hs hM => read_c r s W hs hM)
  have hBk := Lib.hid (fun l w w' e h0 hn h => back43 (r := r) (l := l) (w := w) (w' := w') (e := e) h0 hn h)
  have hAy := Lib.hid (fun t w w' e h => any43 (r := r) (t := t) (w := w) (w' := w') (e := e) hok h)
  have hFt := Lib.hid (fun l h hn => field_txt (r := r) (l := l) h hn)
  generalize RightF zs r = RF at *
  generalize fieldErr r = FE at *
  generalize RetRd r = RR at *
  clear hs g1 hB0 hRfE hok
  obtain ⟨key, metres, stroke, course, legs, sex, young, old⟩ := r
  dsimp only [Race.val, Race.cells] at *
  have hb1 := heap_alloc_new w1 (.cells #[.string key, .int .i64 metres, .int .i64 stroke, .int .i64 course, .int .i64 legs, .int .i64 sex, .int .i64 young, .int .i64 old] 27)
  have s2 := s1.alloc (.cells #[.string key, .int .i64 metres, .int .i64 stroke, .int .i64 course, .int .i64 legs, .int .i64 sex, .int .i64 young, .int .i64 old] 27)
  have hB2 := below_next hB1 (below_new w1 (.cells #[.string key, .int .i64 metres, .int .i64 stroke, .int .i64 course, .int .i64 legs, .int .i64 sex, .int .i64 young, .int .i64 old] 27))
  have z0 := (blk_facts hb1).1 0
  have z1 := (blk_facts hb1).1 1
  have z2 := (blk_facts hb1).1 2
  have z3 := (blk_facts hb1).1 3
  have z4 := (blk_facts hb1).1 4
  have z5 := (blk_facts hb1).1 5
  have z6 := (blk_facts hb1).1 6
  have z7 := (blk_facts hb1).1 7
  go_wp2_with fail
  generalize w1.alloc (.cells #[.string key, .int .i64 metres, .int .i64 stroke, .int .i64 course, .int .i64 legs, .int .i64 sex, .int .i64 young, .int .i64 old] 27) = w2 at *
  generalize w1.heap.size = b4 at *
  refine (hRi.out _ s2).mono ?_; rintro e w3 ⟨A, n, c, l, k3, rfl, ho, hl, hn, hri, hF, s3, hk3, g3⟩
  have rs := RSw.of_own ho hl (by omega) hri
  have hb3 := blk_stream hb1 s2 g3 (by decide)
  have hB3 := hB2.trans (grown_below g3 (Nat.le_refl _) hB2.size)
  have hFE := hRfE'.out l hF
  have hnn : ∀ x ∈ l, x.sp.length = x.n := fun x hx => (rs.2 x hx).len
  obtain ⟨t1, t2, _⟩ := hFt.out l hFE hnn
  have K : K43 w (fun v => RSw v A n l ∧ v.heap[b4]? = some (.cells #[.string key, .int .i64 metres, .int .i64 stroke, .int .i64 course, .int .i64 legs, .int .i64 sex, .int .i64 young, .int .i64 old] 27 (0, 0))) w3 := ⟨⟨rs, hb3⟩, fun a b q B => ⟨⟨q.1.1.below B, fun x hx => (q.1.2 x hx).below B⟩, blk_below q.2 B⟩, hB3⟩
  have hTx1 := Lib.hid (fun W h (hT : Tb W) => hTx.out A n c l W h hT (by omega) t2 hFE)
  have hts : (⟨(fdText (l.map swD)).toArray⟩ : ByteArray).size ≤ 43000 := by show (fdText (l.map swD)).toArray.size ≤ _; rw [List.size_toArray]; exact t1
  have hRd1 := Lib.hid (fun W hM => hRd.out ⟨(fdText (l.map swD)).toArray⟩ W (by omega) hM)
  rw [show (⟨(fdText (l.map swD)).toArray⟩ : ByteArray).data.toList = fdText (l.map swD) by simp] at hRd1
  have hBk1 := Lib.hid (fun w w' e h => hBk.out l w w' e hFE hnn h)
  clear z0 z1 z2 z3 z4 z5 z6 z7 s2 hb1 hb3 hB2 hB3 g3 ho hri hF rs hRi hRfE' t1 t2 hFE hnn hBk hts
  generalize fdText (l.map swD) = TX at *
  have z0 := (blk_facts K.x.2).1 0
  have z1 := (blk_facts K.x.2).1 1
  have z2 := (blk_facts K.x.2).1 2
  have z3 := (blk_facts K.x.2).1 3
  have z4 := (blk_facts K.x.2).1 4
  have z5 := (blk_facts K.x.2).1 5
  have z6 := (blk_facts K.x.2).1 6
  have z7 := (blk_facts K.x.2).1 7
  go_wp2_with fail
  refine (hTx1.out _ K.x.1 (htab.below K.bel)).mono ?_; rintro e w5 ⟨rfl, B5⟩
  have s5 := s3.below B5
  replace K := K.below B5
  clear z0 z1 z2 z3 z4 z5 z6 z7 s3 B5 hTx1
  have z0 := (blk_facts K.x.2).1 0
  have z1 := (blk_facts K.x.2).1 1
  have z2 := (blk_facts K.x.2).1 2
  have z3 := (blk_facts K.x.2).1 3
  have z4 := (blk_facts K.x.2).1 4
  have z5 := (blk_facts K.x.2).1 5
  have z6 := (blk_facts K.x.2).1 6
  have z7 := (blk_facts K.x.2).1 7
  go_wp2_with fail
  refine (hRd1.out _ (hmx.below K.bel)).mono ?_; rintro e w6 hrd
  obtain ⟨A6, n6, c6, acc, rfl, rs6, hd6, B6⟩ := hBk1.out _ _ _ hrd
  have s6 := s5.below B6
  replace K := K.below B6
  have hEq := Lib.hid (equalSwF_c A A6 n c n6 c6 l acc w6 K.x.1 rs6 hd6)
  clear z0 z1 z2 z3 z4 z5 z6 z7 s5 B6 hRd1 hBk1 hrd rs6 hd6
  go_wp2_with fail
  refine hEq.out.mono ?_; rintro e w7 ⟨rfl, B7⟩
  have s7 := s6.below B7
  replace K := K.below B7
  clear s6 B7 hEq
  have z0 := (blk_facts K.x.2).1 0
  have z1 := (blk_facts K.x.2).1 1
  have z2 := (blk_facts K.x.2).1 2
  have z3 := (blk_facts K.x.2).1 3
  have z4 := (blk_facts K.x.2).1 4
  have z5 := (blk_facts K.x.2).1 5
  have z6 := (blk_facts K.x.2).1 6
  have z7 := (blk_facts K.x.2).1 7
  have hFs7 := Lib.hid (hFs.out k3 w7 s7 (by omega) K.bel)
  unfold RetSt at hFs7
  go_wp2_with fail
  refine hFs7.out.mono ?_; rintro e w8 ⟨t, k8, rfl, ht8, s8, _, g8⟩
  have hb8 := blk_stream K.x.2 s7 g8 (by decide)
  have hB8 := K.bel.trans (grown_below g8 (Nat.le_refl _) K.bel.size)
  have hRd8 := Lib.hid (hRd.out t w8 (by omega) (hmx.below hB8))
  clear z0 z1 z2 z3 z4 z5 z6 z7 s7 K g8 hFs hFs7 hRd s8
  have z0 := (blk_facts hb8).1 0
  have z1 := (blk_facts hb8).1 1
  have z2 := (blk_facts hb8).1 2
  have z3 := (blk_facts hb8).1 3
  have z4 := (blk_facts hb8).1 4
  have z5 := (blk_facts hb8).1 5
  have z6 := (blk_facts hb8).1 6
  have z7 := (blk_facts hb8).1 7
  go_wp2_with fail
  refine hRd8.out.mono ?_; rintro e w9 hrd
  obtain ⟨B9, ⟨i9, E9, hE9, rfl⟩ | ⟨A9, n9, c9, acc9, rfl, rs9, hf9, ht9⟩⟩ := hAy.out t _ _ _ hrd
  · have e1 : (E9 == 0) = false := beq_eq_false_iff_ne.2 hE9
    have hB9 := below_next hB8 B9
    clear z0 z1 z2 z3 z4 z5 z6 z7 hRd8 hrd B9 hb8 hB8
    go_wp2_with fail
    refine (ready_c _).mono ?_; rintro e wM ⟨rfl, BM⟩
    have hB := below_next hB9 BM
    go_wp2
    go_ret
    exact ⟨rfl, hB⟩
  · have hB9 := below_next hB8 B9
    have hb9 := blk_below hb8 B9
    obtain ⟨t1, t2, _⟩ := hFt.out acc9 hf9 (fun x hx => (rs9.2 x hx).len)
    have hTx9 := Lib.hid (hTx.out A9 n9 c9 acc9 w9 rs9 (htab.below hB9) (by omega) t2 hf9)
    rw [ht9] at hTx9
    have b1 : (t.toList == t.toList) = true := beq_self_eq_true _
    clear z0 z1 z2 z3 z4 z5 z6 z7 hRd8 hrd B9 hb8 hB8 t1 t2 hf9 ht9 rs9
    have z0 := (blk_facts hb9).1 0
    have z1 := (blk_facts hb9).1 1
    have z2 := (blk_facts hb9).1 2
    have z3 := (blk_facts hb9).1 3
    have z4 := (blk_facts hb9).1 4
    have z5 := (blk_facts hb9).1 5
    have z6 := (blk_facts hb9).1 6
    have z7 := (blk_facts hb9).1 7
    go_wp2_with fail
    refine hTx9.out.mono ?_; rintro e w10 ⟨rfl, B10⟩
    have hB10 := below_next hB9 B10
    clear z0 z1 z2 z3 z4 z5 z6 z7 hTx9 hb9 hB9 B10
    go_wp2_with fail
    refine (ready_c _).mono ?_; rintro e wM ⟨rfl, BM⟩
    have hB := below_next hB10 BM
    go_wp2
    go_ret
    exact ⟨rfl, hB⟩
end Go.Proofs.YtamcmehmcbjgjaaGreatDoor
