import Derived.Deep.RegionHeld3
import Derived.Deep.AppendLies
import Derived.Test.YtpepdkgkdbnakaaGreatDoorTouC
import Derived.Test.YtpepdkgkdbnakaaGreatDoorSheetP
import Derived.Test.YtpepdkgkdbnakaaGreatDoorTouch7
import Derived.Test.YtpepdkgkdbnakaaGreatDoorTouQ
/- pad.Sheets: the loop over the lanes; the values of sheets. -/
namespace Go.Proofs.YtpepdkgkdbnakaaGreatDoor
open Go.RowKit Go.Shelf Go.Lib Go.Sort
set_option linter.unusedVariables false

theorem info_sheet : (Tryz.prog.info? 159).map (fun i => (i.zero, i.size, i.bytes)) = some (some (.agg #[.int .i64 0, .slice none 0 0, .int .i64 0, .int .i64 0]), 4, 48) := by kernel_rfl
theorem info_touchS : (Tryz.prog.info? 253).map (fun i => (i.zero, i.size, i.bytes)) = some (some (.agg #[.int .i64 0, .int .i64 0, .slice none 0 0]), 3, 40) := by kernel_rfl
theorem own_ty {w : World} {B1 B2 s1 s2 n1 n2 : Nat} {e1 e2 : TypeId} {u1 u2 : Value} {x1 x2 : List Value} (h1 : w.ownsRow B1 e1 s1 u1 n1 x1) (h2 : w.ownsRow B2 e2 s2 u2 n2 x2) (he : e2 ≠ e1) : u2.ownBlock = none ∨ u2.ownBlock ≠ u1.ownBlock := by
  rcases h2.2 with ⟨rfl, _⟩ | ⟨g2, cap2, cur2, rfl, _, hc2, _⟩
  · exact .inl rfl
  · refine .inr fun e => ?_
    rcases h1.2 with ⟨rfl, _⟩ | ⟨g1, cap1, cur1, rfl, _, hc1, _⟩
    · exact absurd e (by simp [Value.ownBlock])
    · have e3 : some g2 = some g1 := e
      injection e3 with e3
      subst e3
      rw [hc1] at hc2
      injection hc2 with hc2
      injection hc2 with _ e4 _
      exact he e4.symm
/-- a touch as the values alone tell it -/
def T3.tc (t : T3) : Tc := ⟨t.pad, t.btn, none, 0, 0, t.ws⟩
def Tc.t3 (x : Tc) : T3 := ⟨x.pad, x.btn, x.ws⟩
theorem offV_t3 (x : Tc) : offV x.t3.tc = offV x := rfl
theorem touchErr_t3 (x : Tc) : touchErr x.t3.tc = touchErr x := rfl
theorem hitB_t3 (x : Tc) : hitB x.t3.tc = hitB x := rfl
theorem heatGo_t3 : ∀ l : List Tc, heatGo ((l.map Tc.t3).map T3.tc) = heatGo l
  | [] => rfl
  | x :: r => by
    simp only [List.map_cons, heatGo, touchErr_t3, heatGo_t3 r]
theorem heatErr_t3 (l : List Tc) : heatErr ((l.map Tc.t3).map T3.tc) = heatErr l := by
  unfold heatErr
  rw [heatGo_t3, List.length_map, List.length_map]
theorem shS_t3 : ∀ l : List Tc, shS ((l.map Tc.t3).map T3.tc) = shS l
  | [] => rfl
  | x :: r => by
    simp only [List.map_cons, shS, hitB_t3, shS_t3 r]
    rfl
theorem shM_t3 : ∀ l : List Tc, shM ((l.map Tc.t3).map T3.tc) = shM l
  | [] => rfl
  | x :: r => by
    simp only [List.map_cons, shM, hitB_t3, shM_t3 r]
    rfl
theorem heatL_t3 (l : List Tc) : heatL ((l.map Tc.t3).map T3.tc) = heatL l := by
  unfold heatL shiftV
  rw [shS_t3, shM_t3]
  unfold heatM
  rw [List.map_map, List.map_map]
  rfl
/-- what the clock tells of touches, by their values -/
def heatT (T : List T3) : List Sm := heatL (T.map T3.tc)
theorem heatT_of (l : List Tc) {T : List T3} (h : l.map Tc.t3 = T) : heatL l = heatT T := by subst h; exact (heatL_t3 l).symm
/-- the sheets of lanes from i + 1 on -/
def shGo (lp : Int → List LP.Lp) : Nat → List Sm → List Shd
  | _, [] => []
  | i, s :: r => ⟨(i : Int) + 1, lp ((i : Int) + 1), s.time, s.by_⟩ :: shGo lp (i + 1) r
theorem shGo_at {lp : Int → List LP.Lp} {l : List Sm} {k : Nat} {x : Sm} (i : Nat) (h : l[k]? = some x) : shGo lp i (l.drop k) = ⟨(i : Int) + 1, lp ((i : Int) + 1), x.time, x.by_⟩ :: shGo lp (i + 1) (l.drop (k + 1)) := by rw [drop_at h]; rfl
/-- the touches of the lanes 1 to n -/
def tousV (f : Int → T3) (n : Nat) : List T3 := (List.range n).map fun i : Nat => f ((i : Int) + 1)
theorem tousV_len (f : Int → T3) (n : Nat) : (tousV f n).length = n := by unfold tousV; simp
theorem tousV_succ (f : Int → T3) (n : Nat) : tousV f (n + 1) = tousV f n ++ [f ((n : Int) + 1)] := by unfold tousV; rw [List.range_succ, List.map_append]; rfl
/-- the two rows of pad.Sheets under way -/
structure SW (w : World) (u1 : Value) (S : List Shc) (u2 : Value) (T : List Tc) (wx : World) : Prop where
  o1 : wx.ownsRow w.heap.size 159 4 u1 S.length (S.flatMap shE)
  o2 : wx.ownsRow w.heap.size 253 3 u2 T.length (T.flatMap tcE)
  lp : ∀ x ∈ S, RLp wx x.A x.n x.laps
  ws : ∀ x ∈ T, RI 3 wx x.A x.n x.ws
  bel : Below w.heap.size w wx
section
variable {w wx w' : World} {u1 u2 v' : Value} {S : List Shc} {T : List Tc}
theorem SW.start (w wx : World) (h : Below w.heap.size w wx) : SW w (.slice none 0 0) [] (.slice none 0 0) [] wx := ⟨World.ownsRow_nil _ _ _ _, World.ownsRow_nil _ _ _ _, (fun x h => by cases h), (fun x h => by cases h), h⟩
theorem SW.below (h : SW w u1 S u2 T wx) (B : Below wx.heap.size wx w') : SW w u1 S u2 T w' := ⟨own_below h.o1 B, own_below h.o2 B, fun x hx => (h.lp x hx).below B, fun x hx => (h.ws x hx).below B, below_next h.bel B⟩
theorem SW.app1 {x : Shc} (h : SW w u1 S u2 T wx) (ho : w'.ownsRow w.heap.size 159 4 v' (S.length + 1) (S.flatMap shE ++ shE x)) (hg : wx.grownBy w' u1.ownBlock) (hx : RLp wx x.A x.n x.laps) : SW w v' (S ++ [x]) u2 T w' := by
  have hk := keep_ownG h.o1 hg
  refine ⟨by rw [← flat_snoc, List.length_append]; exact ho, h.o2.kept hg (own_ty h.o1 h.o2 (by decide)), fun y hy => ?_, fun y hy => (h.ws y hy).keep (by decide) hk, below_own h.bel h.o1 hg h.bel.size (Nat.le_refl _)⟩
  rcases List.mem_append.1 hy with hy | hy
  · exact (h.lp y hy).keep (by decide) hk
  · obtain rfl := List.mem_singleton.1 hy
    exact hx.keep (by decide) hk
theorem SW.app2 {x : Tc} (h : SW w u1 S u2 T wx) (ho : w'.ownsRow w.heap.size 253 3 v' (T.length + 1) (T.flatMap tcE ++ tcE x)) (hg : wx.grownBy w' u2.ownBlock) (hx : RI 3 wx x.A x.n x.ws) : SW w u1 S v' (T ++ [x]) w' := by
  have hk := keep_ownG h.o2 hg
  refine ⟨h.o1.kept hg (own_ty h.o2 h.o1 (by decide)), by rw [← flat_snoc, List.length_append]; exact ho, fun y hy => (h.lp y hy).keep (by decide) hk, fun y hy => ?_, below_own h.bel h.o2 hg h.bel.size (Nat.le_refl _)⟩
  rcases List.mem_append.1 hy with hy | hy
  · exact (h.ws y hy).keep (by decide) hk
  · obtain rfl := List.mem_singleton.1 hy
    exact hx.keep (by decide) hk
end
end Go.Proofs.YtpepdkgkdbnakaaGreatDoor

/- pad.Sheets. -/
namespace Go.Proofs.YtpepdkgkdbnakaaGreatDoor
open Go.RowKit Go.Shelf Go.Lib Go.Sort
set_option linter.unusedVariables false

theorem sh_set : ∀ (l : List Shc) (k : Nat) (a b : Int) (t : Shc), l[k]? = some t →
    (((l.flatMap shE).set (k * 4 + 2) (.int .i64 a)).set (k * 4 + 3) (.int .i64 b)) = (l.set k ⟨t.lane, t.A, t.n, t.c, t.laps, a, b⟩).flatMap shE
  | [], _, _, _, _, h => by simp at h
  | x :: l, 0, a, b, t, h => by
    obtain rfl : x = t := by simpa using h
    simp [shE]
  | x :: l, k + 1, a, b, t, h => by
    have ih := sh_set l k a b t (by simpa using h)
    have e : ∀ (m : List Value) (i : Nat) (v : Value), (shE x ++ m).set ((k + 1) * 4 + i) v = shE x ++ m.set (k * 4 + i) v := fun m i v => by
      rw [List.set_append_right _ _ (by show 4 ≤ _; omega)]
      congr 2
      show (k + 1) * 4 + i - 4 = _; omega
    rw [List.set_cons_succ, List.flatMap_cons, List.flatMap_cons, ← ih]
    rw [e, e]
theorem own_setSh {w : World} {base b n c : Nat} {L : List Shc} (h : w.ownsRow base 159 4 (.slice (some ⟨b, 0, none⟩) n c) n (L.flatMap shE)) {k : Nat} {t : Shc} (hk : L[k]? = some t) (x y : Int) :
    ((w.setCell ⟨b, k * 4 + 2, none⟩ (.int .i64 x)).setCell ⟨b, k * 4 + 3, none⟩ (.int .i64 y)).ownsRow base 159 4 (.slice (some ⟨b, 0, none⟩) n c) n ((L.set k ⟨t.lane, t.A, t.n, t.c, t.laps, x, y⟩).flatMap shE) ∧ w.grownBy ((w.setCell ⟨b, k * 4 + 2, none⟩ (.int .i64 x)).setCell ⟨b, k * 4 + 3, none⟩ (.int .i64 y)) (some b) := by
  have h1 := h.stored (k * 4 + 2) (.int .i64 x)
  have h2 := h1.1.stored (k * 4 + 3) (.int .i64 y)
  rw [sh_set L k x y t hk] at h2
  exact ⟨h2.1, grown_trans h1.2 h2.2⟩
/-- the sheets before their times are in -/
def shPre (lp : Int → List LP.Lp) (n : Nat) : List Shd := (List.range n).map fun i : Nat => ⟨(i : Int) + 1, lp ((i : Int) + 1), 0, 0⟩
theorem shPre_len (lp : Int → List LP.Lp) (n : Nat) : (shPre lp n).length = n := by unfold shPre; simp
theorem shPre_succ (lp : Int → List LP.Lp) (n : Nat) : shPre lp (n + 1) = shPre lp n ++ [⟨(n : Int) + 1, lp ((n : Int) + 1), 0, 0⟩] := by unfold shPre; rw [List.range_succ, List.map_append]; rfl
theorem shPre_at (lp : Int → List LP.Lp) {n k : Nat} (h : k < n) : (shPre lp n)[k]? = some ⟨(k : Int) + 1, lp ((k : Int) + 1), 0, 0⟩ := by unfold shPre; rw [List.getElem?_map, List.getElem?_range h]; rfl
theorem shGo_len (lp : Int → List LP.Lp) : ∀ (l : List Sm) (i : Nat), (shGo lp i l).length = l.length
  | [], _ => rfl
  | x :: r, i => by simp [shGo, shGo_len lp r]
theorem shGo_snoc (lp : Int → List LP.Lp) (x : Sm) : ∀ (l : List Sm) (i : Nat), shGo lp i (l ++ [x]) = shGo lp i l ++ [⟨((i + l.length : Nat) : Int) + 1, lp (((i + l.length : Nat) : Int) + 1), x.time, x.by_⟩]
  | [], i => by simp [shGo]
  | y :: r, i => by
    have ih := shGo_snoc lp x r (i + 1)
    simp only [List.cons_append, shGo, ih, List.length_cons, List.cons.injEq, true_and]
    rw [show i + 1 + r.length = i + (r.length + 1) by omega]
/-- one more time is in -/
theorem sh_step {lp : Int → List LP.Lp} {hs : List Sm} {S : List Shc} {k n : Nat} {x : Sm} {t : Shc} (hd : S.map Shc.dat = shGo lp 0 (hs.take k) ++ (shPre lp n).drop k) (hk : k < n) (hx : hs[k]? = some x) (ht : S[k]? = some t) :
    (S.set k ⟨t.lane, t.A, t.n, t.c, t.laps, x.time, x.by_⟩).map Shc.dat = shGo lp 0 (hs.take (k + 1)) ++ (shPre lp n).drop (k + 1) := by
  have hkl : (shGo lp 0 (hs.take k)).length = k := by rw [shGo_len, List.length_take]; have := lt_of_at hx; omega
  have hp := drop_at (shPre_at lp hk)
  have ht2 : (S.map Shc.dat)[k]? = some ⟨(k : Int) + 1, lp ((k : Int) + 1), 0, 0⟩ := by
    rw [hd, List.getElem?_append_right (by omega), hkl, Nat.sub_self, hp]; rfl
  have ht3 : t.dat = ⟨(k : Int) + 1, lp ((k : Int) + 1), 0, 0⟩ := by
    rw [List.getElem?_map, ht] at ht2
    exact Option.some.inj ht2
  have e1 : t.lane = (k : Int) + 1 := congrArg Shd.lane ht3
  have e2 : t.laps = lp ((k : Int) + 1) := congrArg Shd.laps ht3
  rw [List.map_set, hd, hp]
  rw [List.set_append_right _ _ (by omega), hkl, Nat.sub_self, List.set_cons_zero]
  rw [List.take_add_one, hx, show (some x).toList = [x] from rfl, shGo_snoc, List.length_take, List.append_assoc]
  have hm : min k hs.length = k := by have := lt_of_at hx; omega
  rw [hm, Nat.zero_add]
  show _ ++ (⟨t.lane, t.laps, x.time, x.by_⟩ : Shd) :: _ = _
  rw [e1, e2]; rfl
/-- what Sheets hands back -/
def RetSh (w : World) (E : Int) (L : List Shd) (e : Ending) (w' : World) : Prop := ∃ A c S, e = .returned (.tuple #[.slice A L.length c, .int .i64 E]) ∧ RSh w' A L.length S ∧ S.map Shc.dat = L ∧ Below w.heap.size w w'
def sheetsV (cl : List Ck) (l : List Sg) (N H m : Nat) : List Shd := shGo (fun lane => lapsV N (touV cl l H lane)) 0 (heatT (tousV (fun lane => touT cl l N H lane) m))
theorem heatT_len (T : List T3) : (heatT T).length = T.length := by unfold heatT heatL heatM; simp
theorem sheetsV_len (cl : List Ck) (l : List Sg) (N H m : Nat) : (sheetsV cl l N H m).length = m := by unfold sheetsV; rw [shGo_len, heatT_len, tousV_len]
theorem touErr_all {cl : List Ck} {l : List Sg} {N H m : Nat} (h : bothErr cl l = 0) (hN1 : 1 ≤ N) (hN : N ≤ 16) (h1 : 1 ≤ H) (h2 : H ≤ (startsV cl l).length) (hm : m ≤ 10) (T : List Tc) (hT : T.map Tc.t3 = tousV (fun lane => touT cl l N H lane) m) : heatErr T = 0 := by
  have hl : T.length = m := by have := congrArg List.length hT; rw [List.length_map, tousV_len] at this; exact this
  refine heatErr_zero (by omega) fun x hx => ?_
  have hx3 : x.t3 ∈ tousV (fun lane => touT cl l N H lane) m := hT ▸ List.mem_map_of_mem hx
  unfold tousV at hx3
  obtain ⟨i, _, hi⟩ := List.mem_map.1 hx3
  have ht := touT_ok (cl := cl) (l := l) (N := N) (H := H) (lane := (i : Int) + 1) h hN1 hN h1 h2
  have e : x.t3 = touT cl l N H ((i : Int) + 1) := hi.symm
  rw [← e] at ht
  exact touchErr_ok ht.1 ht.2.1 ht.2.2.1 ht.2.2.2
theorem lane_ok {cl : List Ck} {l : List Sg} {heat lane : Int} (h : ttE cl l heat lane = 0) : 1 ≤ lane ∧ lane ≤ 10 := by
  unfold ttE at h
  split at h
  · rename_i h1; exact absurd h h1
  · unfold laneErr at h
    split at h
    · cases h
    · rename_i h1
      exact Decidable.not_not.1 (fun h2 => h1 (.inr h2))
theorem RTc.of_own {w : World} {base : Nat} {A : Option Addr} {c : Nat} {T : List Tc} (h : w.ownsRow base 253 3 (.slice A T.length c) T.length (T.flatMap tcE)) (hn : T.length ≤ 1000) (hw : ∀ x ∈ T, RI 3 w x.A x.n x.ws) : RTc w A T.length T := ⟨RN.of_own tcE_len h rfl (by omega), hw⟩
set_option maxHeartbeats 6400000 in
set_option maxRecDepth 100000 in
theorem padSheets_c (r : Race) (N : Nat) (hrN : raceErr r = 0 → lenV r = (N : Int) ∧ 1 ≤ N ∧ N ≤ 16) (Ac : Option Addr) (nc cc : Nat) (cl : List Ck) (A : Option Addr) (n c : Nat) (l : List Sg) (heat lanes : Int) (w : World) (hc : RCk w Ac nc cl) (h : RSg w A n l) (hn : n ≤ 19) :
    Calls Tryz.prog 97 #[r.val, .slice Ac nc cc, .slice A n c, .int .i64 heat, .int .i64 lanes] w (RetSh w (clE r cl l heat lanes) (if clE r cl l heat lanes = 0 then sheetsV cl l N heat.toNat lanes.toNat else [])) := by
  have hbx := below_new w (.cells r.cells 139)
  have hcr := (blk_facts (heap_alloc_new w (.cells r.cells 139))).1
  have hCh := Lib.hid (fun W B => checkLaps_c r Ac nc cc cl A n c l heat lanes W (hc.below (w' := W) B) (h.below (w' := W) B))
  have hln := h.len
  by_cases h0 : clE r cl l heat lanes = 0
  · obtain ⟨hr, ht⟩ := clE_ok h0
    obtain ⟨k1, k2, k3⟩ := ttE_ok ht
    obtain ⟨n1, n2⟩ := lane_ok ht
    obtain ⟨m1, m2, m3, m4⟩ := both_ok k1
    obtain ⟨hN0, hN1, hN2⟩ := hrN hr
    rw [h0, if_pos hr, hN0] at hCh
    rw [h0, if_pos rfl]
    have hV : Hid (sheetsV cl l N heat.toNat lanes.toNat = shGo (fun lane => lapsV N (touV cl l heat.toNat lane)) 0 (heatT (tousV (fun lane => touT cl l N heat.toNat lane) lanes.toNat))) := Lib.hid rfl
    have hVl := sheetsV_len cl l N heat.toNat lanes.toNat
    obtain ⟨H, rfl⟩ : ∃ H : Nat, heat = (H : Int) := ⟨heat.toNat, by omega⟩
    obtain ⟨m, rfl⟩ : ∃ m : Nat, lanes = (m : Int) := ⟨lanes.toNat, by omega⟩
    rw [Int.toNat_natCast, Int.toNat_natCast] at *
    have htb : ∀ lane, ∀ x ∈ touV cl l H lane, 0 ≤ x ∧ x ≤ 1000000000 := fun lane x hx => ⟨touV_ge cl l H lane (by omega) (by omega) x hx, by have := touV_le cl l H lane x hx; omega⟩
    have hTo := Lib.hid (fun lane W B => padTouches_c Ac nc cc cl A n c l W (hc.below (w' := W) B) (h.below (w' := W) B) m1 m2 hn H (by omega) (by omega) lane)
    have hTd := Lib.hid (fun lane W B => touched_c N hN1 hN2 Ac nc cc cl A n c l W (hc.below (w' := W) B) (h.below (w' := W) B) m1 m2 hn H (by omega) (by omega) lane)
    have htl := Lib.hid (fun lane => touV_len cl l H lane)
    have hLa := Lib.hid (fun lane A' n' c' W h1 h2 => padLaps_c N A' n' c' (touV cl l H lane) W h1 hN1 hN2 h2 (htb lane))
    have hLl := Lib.hid (fun lane => lapsV_len N _ (htb lane) hN1 hN2)
    have hHE := Lib.hid (fun T hT => touErr_all (N := N) (H := H) (m := m) k1 hN1 hN2 (by omega) (by omega) (by omega) T hT)
    have hHt := Lib.hid (fun A n c T W h => heat_c A n c T W h)
    clear hr ht k1 k2 k3 m1 m2 m3 m4 hN0 hc h h0 hrN htb
    generalize hlp : (fun lane => lapsV N (touV cl l H lane)) = lp at *
    generalize hft : (fun lane => touT cl l N H lane) = ft at *
    have hlpe : ∀ lane, lapsV N (touV cl l H lane) = lp lane := fun lane => by rw [← hlp]
    have hfte : ∀ lane, touT cl l N H lane = ft lane := fun lane => by rw [← hft]
    simp only [hlpe, hfte] at hLa hLl hTd
    generalize hTV : (fun lane => touV cl l H lane) = TV at *
    have hTVe : ∀ lane, touV cl l H lane = TV lane := fun lane => by rw [← hTV]
    simp only [hTVe] at hLa hTo htl
    generalize sheetsV cl l N H m = SV at *
    clear hlp hft hTV hlpe hfte hTVe
    obtain ⟨key, metres, stroke, course, legs, sex, young, old⟩ := r
    dsimp only [Race.val, Race.cells] at *
    go_enter Tryz.func97, Tryz.ntmps97
    go_wp2_with fail
    refine (hCh.out _ hbx).mono ?_; rintro e w1 ⟨rfl, B1⟩
    have hB1 := below_next hbx B1
    have K0 := SW.start w w1 hB1
    clear hCh B1 hbx hcr hB1
    go_wp2_with fail
    go_loopw [14, 15, 16] (fun u1 u2 iv wx => ∃ (k : Nat) (S : List Shc) (T : List Tc), k ≤ m ∧ iv = .int .i64 ((k : Int) + 1) ∧ SW w u1 S u2 T wx ∧ (S.length ≤ k ∧ T.length ≤ k) ∧ Hid (S.length = k ∧ T.length = k) ∧ Hid (S.map Shc.dat = shPre lp k) ∧ Hid (T.map Tc.t3 = tousV ft k)) (fun _ _ iv _ => m + 1 - (intOf iv).toNat)
    case atStart => exact ⟨0, [], [], Nat.zero_le _, rfl, K0, ⟨Nat.le_refl _, Nat.le_refl _⟩, Lib.hid ⟨rfl, rfl⟩, Lib.hid rfl, Lib.hid rfl⟩
    case round =>
      clear K0
      obtain ⟨k, S, T, hk, rfl, K, ⟨hSk, hTk⟩, hST, hSd, hTd3⟩ := hrel
      by_cases hlt : k < m
      · have hle : (k : Int) + 1 ≤ (m : Int) := by omega
        have htl1 := htl.out ((k : Int) + 1)
        have hLl1 := hLl.out ((k : Int) + 1)
        obtain ⟨Ax, cx, rfl⟩ := own_shape K.o1
        obtain ⟨Ay, cy, rfl⟩ := own_shape K.o2
        go_wp2_with fail
        refine (hTo.out _ _ K.bel).mono ?_; rintro e w2 ⟨A2, c2, rfl, o2, B2⟩
        have r2 : RI 3 w2 A2 (TV ((k : Int) + 1)).length (TV ((k : Int) + 1)) := R1.of_own o2 (by omega)
        have K2 := K.below B2
        clear K o2 B2
        go_wp2_with fail
        refine (hLa.out _ A2 _ c2 _ r2 (by omega)).mono ?_; rintro e w3 ⟨A3, c3, rfl, o3, B3⟩
        have r3 : RLp w3 A3 (lp ((k : Int) + 1)).length (lp ((k : Int) + 1)) := RN.of_own lpE_len o3 rfl (by omega)
        have K3 := K2.below B3
        have hz3 := K3.bel.size
        have hown := Lib.hid K3.o1
        clear K2 r2 o3 B3
        go_wp2_with (first
          | (at_builtin; refine wpList_app rfl (.tmp 36) (.tmp 46) 147 rfl Tryz.underlying147 info_sheet rfl (by omega) (by omega) hown.out rfl rfl (by first | rfl | (simp; done)) rfl (by simp [Value.oneCell']) (by omega) hz3 ?_; intro v4 w4 hown4 hg4; have K4 := K3.app1 (x := ⟨(k : Int) + 1, A3, (lp ((k : Int) + 1)).length, c3, lp ((k : Int) + 1), 0, 0⟩) hown4 hg4 r3; clear K3 hown4 hg4 hown r3)
          | (go_at_call 192; refine (hTd.out _ _ K4.bel).mono ?_; rintro e w5 ⟨A5, c5, rfl, r5, B5⟩; have K5 := K4.below B5; have hz5 := K5.bel.size; have hown5 := Lib.hid K5.o2; clear K4 B5)
          | (at_builtin; refine wpList_app rfl (.tmp 48) (.tmp 55) 251 rfl Tryz.underlying251 info_touchS rfl (by omega) (by omega) hown5.out rfl rfl (by first | rfl | (simp; done)) rfl (by simp [Value.oneCell']) (by omega) hz5 ?_; intro v6 w6 hown6 hg6; have K6 := K5.app2 (x := ⟨(ft ((k : Int) + 1)).pad, (ft ((k : Int) + 1)).btn, A5, (ft ((k : Int) + 1)).ws.length, c5, (ft ((k : Int) + 1)).ws⟩) hown6 hg6 r5; clear K5 hown6 hg6 hown5 r5))
        go_roundw
        case rel =>
          refine ⟨k + 1, _, _, by omega, by go_num, K6, by simp only [List.length_append, List.length_cons, List.length_nil]; omega, Lib.hid (by simp only [List.length_append, List.length_cons, List.length_nil, hST.out.1, hST.out.2]; exact ⟨trivial, trivial⟩), Lib.hid ?_, Lib.hid ?_⟩
          · rw [List.map_append, hSd.out, shPre_succ]; rfl
          · rw [List.map_append, hTd3.out, tousV_succ]; rfl
        case measure => simp [intOf]; omega
      · obtain rfl : k = m := by omega
        have hne : ¬ (k : Int) + 1 ≤ (k : Int) := by omega
        clear hTo hTd hLa hLl htl hlt
        have hS := Lib.hid hST.out.1
        have hT := Lib.hid hST.out.2
        obtain ⟨Ax, cx, rfl⟩ := own_shape K.o1
        obtain ⟨Ay, cy, rfl⟩ := own_shape K.o2
        have hE := hHE.out T hTd3.out
        have rT := RTc.of_own K.o2 (by omega) K.ws
        have hHt2 := Lib.hid (fun W h => hHt.out Ay T.length cy T W h)
        have hA : heatA T = heatT (tousV ft k) := by unfold heatA; rw [if_pos hE]; exact heatT_of T hTd3.out
        have hNl : heatN T = k := by unfold heatN; rw [if_pos hE]; exact hT.out
        rw [hE, hA, hNl] at hHt2
        clear hHE hHt hE hA hNl
        generalize heatT (tousV ft k) = HS at *
        go_wp2_with fail
        refine (hHt2.out _ rT).mono ?_; rintro e w4 ⟨A4, c4, rfl, r4, B4⟩
        have K4 := K.below B4
        have o4 := K4.o1
        have l4 := K4.lp
        have b4 := K4.bel
        have hHSl := r4.len
        rw [hS.out] at o4
        clear hHt2 rT K B4 K4 hTd3 hT hST hSk hTk
        have hsv : S.map Shc.dat = shGo lp 0 (HS.take 0) ++ (shPre lp k).drop 0 := by rw [hSd.out]; rfl
        have hsv' := Lib.hid hsv
        clear hsv hSd
        rw [hS.out]
        go_wp2_with fail
        go_loopw [67] (fun iv wx => ∃ (q : Nat) (S2 : List Shc), q ≤ k ∧ iv = .int .i64 q ∧ wx.ownsRow w.heap.size 159 4 (.slice Ax k cx) k (S2.flatMap shE) ∧ (∀ x ∈ S2, RLp wx x.A x.n x.laps) ∧ RSm wx A4 k HS ∧ Below w.heap.size w wx ∧ Hid (S2.length = k) ∧ Hid (S2.map Shc.dat = shGo lp 0 (HS.take q) ++ (shPre lp k).drop q)) (fun iv _ => k - (intOf iv).toNat)
        case atStart => exact ⟨0, S, Nat.zero_le _, rfl, o4, l4, r4, b4, hS, hsv'⟩
        case round =>
          clear o4 l4 r4 b4 hsv' hS
          rename World => wx
          obtain ⟨q, S2, hq, rfl, o, lps, rs, hB, hS2, hsd⟩ := hrel
          by_cases hlt : q < k
          · obtain ⟨bS, oS, x, rfl, hbS, hx, s0, s1⟩ := RSm.atN rs hlt
            obtain ⟨bo, rfl, hbo⟩ := own_someN o (by omega)
            obtain ⟨t, ht⟩ := at_of_lt (l := S2) (k := q) (by have := hS2.out; omega)
            have hc2 := o.cellAt (q * 4 + 2) (by omega)
            have hc3 := o.cellAt (q * 4 + 3) (by omega)
            rw [flat_at shE_len S2 q t 2 (.int .i64 t.time) ht rfl] at hc2
            rw [flat_at shE_len S2 q t 3 (.int .i64 t.by_) ht rfl] at hc3
            have hf := o.frozenAt
            have hst := own_setSh o ht x.time x.by_
            have hsd2 := Lib.hid (sh_step hsd.out hlt hx ht)
            have hkp := keep_ownG (u := .slice (some ⟨bo, 0, none⟩) k cx) o hst.2
            have hB2 := below_own hB o hst.2 hB.size (Nat.le_refl _)
            have hrs2 : RSm _ (some ⟨bS, oS, none⟩) k HS := rs.keep (by decide) hkp
            have hlp2 := Lib.hid (fun y (hy : y ∈ S2.set q ⟨t.lane, t.A, t.n, t.c, t.laps, x.time, x.by_⟩) => show RLp _ y.A y.n y.laps from by
              rcases List.mem_or_eq_of_mem_set hy with hy | rfl
              · exact (lps y hy).keep (by decide) hkp
              · exact (lps t (List.mem_of_getElem? ht)).keep (by decide) hkp)
            have ho2 := hst.1
            clear hsd hx ht lps rs hst hkp o hB
            obtain ⟨xt, xb⟩ := x
            dsimp only at *
            go_wp2
            go_roundw
            case rel => exact ⟨q + 1, _, by omega, by go_num, ho2, hlp2.out, hrs2, hB2, Lib.hid (by rw [List.length_set]; exact hS2.out), hsd2⟩
            case measure => simp [intOf]; omega
          · obtain rfl : q = k := by omega
            have hfin : S2.map Shc.dat = SV := by
              rw [hsd.out, hV.out, List.take_of_length_le (by omega), List.drop_of_length_le (by rw [shPre_len]; exact Nat.le_refl _), List.append_nil]
            have hrs : RSh wx Ax SV.length S2 := ⟨by rw [hVl]; exact RN.of_own shE_len o hS2.out (by omega), lps⟩
            clear hsd hV lps rs o hS2
            go_wp2
            go_ret2
            rw [← hVl]
            exact ⟨Ax, cx, S2, rfl, hrs, hfin, hB⟩
  · rw [if_neg h0]
    have h1 : (clE r cl l heat lanes == 0) = false := by simpa using h0
    have h2 : (clE r cl l heat lanes != 0) = true := by simpa using h0
    clear h0 hc h hrN
    generalize clE r cl l heat lanes = E at *
    generalize (if raceErr r = 0 then lenV r else 0) = LN at *
    obtain ⟨key, metres, stroke, course, legs, sex, young, old⟩ := r
    dsimp only [Race.val, Race.cells] at *
    go_enter Tryz.func97, Tryz.ntmps97
    go_wp2_with fail
    refine (hCh.out _ hbx).mono ?_; rintro e w1 ⟨rfl, B1⟩
    have hB1 := below_next hbx B1
    clear hCh B1 hbx hcr
    go_wp2
    go_ret2
    exact ⟨none, 0, [], rfl, RSh.nil_ _, rfl, hB1⟩
end Go.Proofs.YtpepdkgkdbnakaaGreatDoor

/- tumbref1.SheetsOf. -/
namespace Go.Proofs.YtpepdkgkdbnakaaGreatDoor
open Go.RowKit Go.Shelf Go.Lib Go.Sort
set_option linter.unusedVariables false

/-- the row of touches under way, over the box of the race -/
structure OT (w : World) (r : Race) (u : Value) (T : List Tc) (wx : World) : Prop where
  bx : wx.heap[w.heap.size]? = some (.cells r.cells 139 (0, 0))
  o : wx.ownsRow (w.heap.size + 1) 253 3 u T.length (T.flatMap tcE)
  ws : ∀ x ∈ T, RI 3 wx x.A x.n x.ws
  bel : Below w.heap.size w wx
/-- the row of sheets under way, over the box of the race -/
structure OS (w : World) (r : Race) (u : Value) (S : List Shc) (A : Option Addr) (m : Nat) (HS : List Sm) (wx : World) : Prop where
  bx : wx.heap[w.heap.size]? = some (.cells r.cells 139 (0, 0))
  o : wx.ownsRow (w.heap.size + 1) 159 4 u S.length (S.flatMap shE)
  lp : ∀ x ∈ S, RLp wx x.A x.n x.laps
  rs : RSm wx A m HS
  bel : Below w.heap.size w wx
section
variable {w wx w' : World} {r : Race} {u v' : Value} {T : List Tc} {S : List Shc} {A : Option Addr} {m : Nat} {HS : List Sm}
theorem OT.below (h : OT w r u T wx) (B : Below wx.heap.size wx w') : OT w r u T w' := ⟨blk_below h.bx B, own_below h.o B, fun x hx => (h.ws x hx).below B, below_next h.bel B⟩
theorem OT.app {x : Tc} (h : OT w r u T wx) (ho : w'.ownsRow (w.heap.size + 1) 253 3 v' (T.length + 1) (T.flatMap tcE ++ tcE x)) (hg : wx.grownBy w' u.ownBlock) (hx : RI 3 wx x.A x.n x.ws) : OT w r v' (T ++ [x]) w' := by
  have hk := keep_ownG h.o hg
  refine ⟨blk_grown h.bx hg (fun e => by have := own_row_lt h.o w.heap.size e.symm; omega), by rw [← flat_snoc, List.length_append]; exact ho, fun y hy => ?_, below_own h.bel h.o hg h.bel.size (by omega)⟩
  rcases List.mem_append.1 hy with hy | hy
  · exact (h.ws y hy).keep (by decide) hk
  · obtain rfl := List.mem_singleton.1 hy
    exact hx.keep (by decide) hk
theorem OS.below (h : OS w r u S A m HS wx) (B : Below wx.heap.size wx w') : OS w r u S A m HS w' := ⟨blk_below h.bx B, own_below h.o B, fun x hx => (h.lp x hx).below B, h.rs.below B, below_next h.bel B⟩
theorem OS.drew (h : OS w r u S A m HS wx) : OS w r u S A m HS wx.drew := ⟨h.bx, h.o.drew, h.lp, h.rs, below_drewN h.bel 1⟩
theorem OS.app {x : Shc} (h : OS w r u S A m HS wx) (ho : w'.ownsRow (w.heap.size + 1) 159 4 v' (S.length + 1) (S.flatMap shE ++ shE x)) (hg : wx.grownBy w' u.ownBlock) (hx : RLp wx x.A x.n x.laps) : OS w r v' (S ++ [x]) A m HS w' := by
  have hk := keep_ownG h.o hg
  refine ⟨blk_grown h.bx hg (fun e => by have := own_row_lt h.o w.heap.size e.symm; omega), by rw [← flat_snoc, List.length_append]; exact ho, fun y hy => ?_, h.rs.keep (by decide) hk, below_own h.bel h.o hg h.bel.size (by omega)⟩
  rcases List.mem_append.1 hy with hy | hy
  · exact (h.lp y hy).keep (by decide) hk
  · obtain rfl := List.mem_singleton.1 hy
    exact hx.keep (by decide) hk
end
def RetShR (w : World) (L : List Shd) (e : Ending) (w' : World) : Prop := ∃ A c S, e = .returned (.slice A L.length c) ∧ RSh w' A L.length S ∧ S.map Shc.dat = L ∧ Below w.heap.size w w'
end Go.Proofs.YtpepdkgkdbnakaaGreatDoor
