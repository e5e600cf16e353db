/- TopSheetsAreOfficial: the walk. Printed by wip/gen23.py. -/
import Derived.Test.YtcdnjehkkbnfbaaGreatDoorP23
import Derived.Test.YtcdnjehkkbnfbaaGreatDoorSheetC
import Derived.Test.YtcdnjehkkbnfbaaGreatDoorPadK
import Derived.Test.YtcdnjehkkbnfbaaGreatDoorClkM
import Derived.Test.YtcdnjehkkbnfbaaGreatDoorSgR
import Derived.Test.YtcdnjehkkbnfbaaGreatDoorPlainR
import Derived.Test.YtcdnjehkkbnfbaaGreatDoorDraws
import Derived.Test.YtcdnjehkkbnfbaaGreatDoorRows2
import Derived.Laws.StructEq
import Derived.Deep.RegionHeld3
import Derived.Lib.ItoaLen
import Derived.Deep.AppendLies
namespace Go.Proofs.YtcdnjehkkbnfbaaGreatDoor
open Go.RowKit Go.Shelf Go.Lib Go.Sort
set_option linter.unusedVariables false

set_option maxRecDepth 100000 in
set_option maxHeartbeats 1600000 in
theorem h23_c (w : World) : Calls Tryz.prog 18 #[] w fun e w' => e = .returned (.bool true) ∧ Below w.heap.size w w' := by
  go_enter Tryz.func18, Tryz.ntmps18
  go_wp2_with fail
  refine (write12_c _).mono ?_; rintro e w1 ⟨rfl, B1⟩
  go_wp2_with fail
  refine (lanes_c _).mono ?_; rintro e w2 ⟨A2, n2, c2, rfl, hr2, B2⟩
  have hB2 := below_next B1 B2
  have hn2 := hr2.len
  simp only [List.length_cons, List.length_nil] at hn2
  subst hn2
  go_wp2_with fail
  refine (rankA_c _ _ (heap_alloc_new w2 _)).mono ?_; rintro e w4 ⟨A4, c4, rfl, hown4, B4⟩
  have hr4 := (hr2.alloc _).below B4
  have hB4 := below_next hB2 (below_box B4)
  clear hr2 hB2 B4 hown4 B1 B2
  go_wp2_with fail
  refine (equal_c _ _ _ _ _ _ _ _ _ (hr4.alloc _) (R1.lit (enc := Value.int .i64) (e := 3) w4 #[.int .i64 3, .int .i64 4, .int .i64 2, .int .i64 5, .int .i64 1] [3, 4, 2, 5, 1] rfl (le_big (by decide)))).mono ?_; rintro e w5 ⟨rfl, B5⟩
  rw [show eqB [3, 4, 2, 5, 1] [3, 4, 2, 5, 1] = true from rfl]
  go_wp2
  go_ret
  exact ⟨rfl, below_next hB4 (below_box B5)⟩
theorem rank23_c (A : Option Addr) (n c : Nat) (l : List Sd) (w : World) (h : RSd w A n l) (hn : n ≤ 19) (hs : seedErr l = 0) :
    Calls Tryz.prog 23 #[.slice A n c, .slice none 0 0] w (RetRk w 0 (rankL 1 (fun _ => 0) l)) := by
  have hE : rankE l [] = 0 := by unfold rankE; rw [hs, if_neg (by simp)]; rfl
  have hD : rankD 1 l [] = rankL 1 (fun _ => 0) l := by unfold rankD; rw [if_pos hE]; rfl
  have hR := Lib.hid (rank_c A none n c 0 0 l [] 1 w h (RN.nil_ _ _ _ _ _) hn (by omega) (by omega))
  rw [hE, hD] at hR
  generalize rankL 1 (fun _ => 0) l = D at *
  clear hE hD hs
  go_enter Tryz.func23, Tryz.ntmps23
  go_wp2_with fail
  refine hR.out.mono ?_; rintro e w1 ⟨A1, n1, c1, rfl, r1, B1, hc1⟩
  go_wp2
  go_ret2
  exact ⟨A1, n1, c1, rfl, r1, B1, hc1⟩
/-- the names l1, l2, .. -/
def nmL (k : Nat) : ByteArray := ⟨#[108]⟩ ++ itoaS ((k : Int) + 1)
def sdGo : Nat → List Sm → List Sd
  | _, [] => []
  | i, s :: r => ⟨nmL i, s.time⟩ :: sdGo (i + 1) r
theorem sdGo_snoc (x : Sm) : ∀ (l : List Sm) (i : Nat), sdGo i (l ++ [x]) = sdGo i l ++ [⟨nmL (i + l.length), x.time⟩]
  | [], i => rfl
  | y :: r, i => by
    have ih := sdGo_snoc x r (i + 1)
    simp only [List.cons_append, sdGo, ih, List.length_cons, List.cons.injEq, true_and]
    rw [show i + 1 + r.length = i + (r.length + 1) by omega]
theorem sdGo_len : ∀ (l : List Sm) (i : Nat), (sdGo i l).length = l.length
  | [], _ => rfl
  | x :: r, i => by simp [sdGo, sdGo_len r]
theorem sdGo_time : ∀ (l : List Sm) (i : Nat), ∀ x ∈ sdGo i l, ∃ s ∈ l, x.time = s.time
  | [], _, x, h => by cases h
  | s :: r, i, x, h => by
    rcases List.mem_cons.1 h with rfl | h
    · exact ⟨s, List.mem_cons_self, rfl⟩
    · obtain ⟨t, ht, e⟩ := sdGo_time r (i + 1) x h; exact ⟨t, List.mem_cons_of_mem _ ht, e⟩
theorem seeds4 {l : List Sm} (hl : l.length = 4) (hb : ∀ s ∈ l, 0 ≤ s.time ∧ s.time ≤ 360000) : seedErr (sdGo 0 l) = 0 := by
  match l, hl with
  | [a, b, c, d], _ =>
    have ha := hb a (by simp)
    have hb' := hb b (by simp)
    have hc := hb c (by simp)
    have hd := hb d (by simp)
    have k0 : keyB (nmL 0) = true := by kernel_rfl
    have k1 : keyB (nmL 1) = true := by kernel_rfl
    have k2 : keyB (nmL 2) = true := by kernel_rfl
    have k3 : keyB (nmL 3) = true := by kernel_rfl
    have s1 : seenB (nmL 1) [nmL 0] = false := by kernel_rfl
    have s2 : seenB (nmL 2) [nmL 1, nmL 0] = false := by kernel_rfl
    have s3 : seenB (nmL 3) [nmL 2, nmL 1, nmL 0] = false := by kernel_rfl
    have s0 : seenB (nmL 0) [] = false := by kernel_rfl
    unfold seedErr
    rw [if_neg (by simp [sdGo])]
    simp [sdGo, seedGo, k0, k1, k2, k3, s0, s1, s2, s3, ha, hb', hc, hd]
theorem shGo_get (lp : Int → List LP.Lp) : ∀ (hs : List Sm) (i k : Nat) (x : Sm), hs[k]? = some x → (shGo lp i hs)[k]? = some ⟨((i + k : Nat) : Int) + 1, lp (((i + k : Nat) : Int) + 1), x.time, x.by_⟩
  | [], _, _, _, h => by simp at h
  | y :: r, i, 0, x, h => by
    obtain rfl : y = x := by simpa using h
    simp [shGo]
  | y :: r, i, k + 1, x, h => by
    have := shGo_get lp r (i + 1) k x (by simpa using h)
    rw [show i + (k + 1) = i + 1 + k by omega]
    simpa [shGo] using this
theorem offV_bd (x : T3) (h : 0 ≤ x.pad ∧ x.pad ≤ 360000) (h2 : 0 ≤ x.btn ∧ x.btn ≤ 360000) (h3 : x.ws.length ≤ 3) (h4 : ∀ y ∈ x.ws, 1 ≤ y ∧ y ≤ 360000) : 0 ≤ (offV x.tc).time ∧ (offV x.tc).time ≤ 360000 := off_bd (touchErr_ok (x := x.tc) h h2 h3 h4)
theorem heatT_bd {T : List T3} (h : ∀ x ∈ T, (0 ≤ x.pad ∧ x.pad ≤ 360000) ∧ (0 ≤ x.btn ∧ x.btn ≤ 360000) ∧ x.ws.length ≤ 3 ∧ ∀ y ∈ x.ws, 1 ≤ y ∧ y ≤ 360000) : ∀ s ∈ heatT T, 0 ≤ s.time ∧ s.time ≤ 360000 := by
  intro s hs
  unfold heatT heatL heatM at hs
  obtain ⟨y, hy, rfl⟩ := List.mem_map.1 hs
  obtain ⟨x, hx, rfl⟩ := List.mem_map.1 hy
  obtain ⟨a, b, c, d⟩ := h x hx
  have := offV_bd x a b c d
  unfold fixS
  split
  · dsimp only; omega
  · exact this
theorem lane_any {cl : List Ck} {l : List Sg} {m : Int} (h : laneErr cl l 1 1 = 0) (h1 : 1 ≤ m) (h2 : m ≤ 10) : laneErr cl l 1 m = 0 := by
  unfold laneErr at *
  rw [if_neg (by omega)] at h ⊢
  exact h
theorem laneR_ok {cl : List Ck} {l : List Sg} (h : laneErr cl l 1 1 = 0) : 1 ≤ (startsV cl l).length := by
  unfold laneErr at h
  rw [if_neg (by omega)] at h
  split at h
  · cases h
  · omega
/-- touches and seeds under way -/
structure TS (w : World) (u1 : Value) (T : List Tc) (u2 : Value) (D : List Sd) (wx : World) : Prop where
  o1 : wx.ownsRow w.heap.size 48 3 u1 T.length (T.flatMap tcE)
  o2 : wx.ownsRow w.heap.size 53 2 u2 D.length (D.flatMap sdE)
  ws : ∀ x ∈ T, RI 3 wx x.A x.n x.ws
  bel : Below w.heap.size w wx
section
variable {w wx w' : World} {u1 u2 v' : Value} {T : List Tc} {D : List Sd}
theorem TS.start (w : World) : TS w (.slice none 0 0) [] (.slice none 0 0) [] w := ⟨World.ownsRow_nil _ _ _ _, World.ownsRow_nil _ _ _ _, (fun x h => by cases h), Below.refl _ _⟩
theorem TS.below (h : TS w u1 T u2 D wx) (B : Below wx.heap.size wx w') : TS w u1 T u2 D w' := ⟨own_below h.o1 B, own_below h.o2 B, fun x hx => (h.ws x hx).below B, below_next h.bel B⟩
theorem TS.drew (h : TS w u1 T u2 D wx) : TS w u1 T u2 D wx.drew := ⟨h.o1.drew, h.o2.drew, h.ws, below_drewN h.bel 1⟩
theorem TS.app1 {x : Tc} (h : TS w u1 T u2 D wx) (ho : w'.ownsRow w.heap.size 48 3 v' (T.length + 1) (T.flatMap tcE ++ tcE x)) (hg : wx.grownBy w' u1.ownBlock) (hx : RI 3 wx x.A x.n x.ws) : TS w v' (T ++ [x]) u2 D w' := by
  have hk := keep_ownG h.o1 hg
  refine ⟨by rw [← flat_snoc, List.length_append]; exact ho, h.o2.kept hg (own_ty h.o1 h.o2 (by decide)), fun y hy => ?_, below_own h.bel h.o1 hg h.bel.size (Nat.le_refl _)⟩
  rcases List.mem_append.1 hy with hy | hy
  · exact (h.ws y hy).keep (by decide) hk
  · obtain rfl := List.mem_singleton.1 hy
    exact hx.keep (by decide) hk
theorem TS.app2 {x : Sd} (h : TS w u1 T u2 D wx) (ho : w'.ownsRow w.heap.size 53 2 v' (D.length + 1) (D.flatMap sdE ++ sdE x)) (hg : wx.grownBy w' u2.ownBlock) : TS w u1 T v' (D ++ [x]) w' := by
  have hk := keep_ownG h.o2 hg
  exact ⟨h.o1.kept hg (own_ty h.o2 h.o1 (by decide)), by rw [← flat_snoc, List.length_append]; exact ho, fun y hy => (h.ws y hy).keep (by decide) hk, below_own h.bel h.o2 hg h.bel.size (Nat.le_refl _)⟩
end
theorem info_seed23 : (Tryz.prog.info? 53).map (fun i => (i.zero, i.size, i.bytes)) = some (some (.agg #[.string ⟨#[]⟩, .int .i64 0]), 2, 24) := by kernel_rfl
set_option maxHeartbeats 40000000 in
set_option maxRecDepth 100000 in
theorem topSheetsAreOfficial_walk (a0 : Option Addr) (len0 cap0 : Nat) (z0 : List Int) (w : World) (w0 : IsRow .i64 w a0 len0 cap0 z0) (htab : Tb w) :
    Calls Tryz.prog 3 #[.slice a0 len0 cap0] w fun e w' => e = .returned (.bool true) ∧ Below w.heap.size w w' := by
  have hs := law_start w0
  clear w0
  generalize z0.take len0 = zs at *
  go_enter Tryz.func3, Tryz.ntmps3
  go_wp2_with fail
  have hs' : St (w.alloc (.cells #[.slice a0 len0 cap0, .int .i64 0] 25)) w.heap.size zs 0 := hs
  refine (plainRace_c w.heap.size zs 0 _ hs' (by omega)).mono ?_; rintro e w1 ⟨rfl, s1, g1⟩
  rw [plainRace_2] at s1
  have hok0 := plainRace_ok zs 0
  have hl16 := plain_len zs 0
  have hB1 : Below w.heap.size w w1 := (below_new w _).trans (grown_below g1 (Nat.le_refl _) (by simp))
  generalize (plainRace zs 0).1 = r at *
  clear hs hs' g1
  go_wp2_with fail
  refine (rightSignals_c _ zs _ _ s1 (by omega)).mono ?_; rintro e w2 ⟨A, n, c, l, k2, rfl, hL2, hsg, hn18, s2, hk2, g2, hcpA⟩
  have hB2 := hB1.trans (grown_below g2 (Nat.le_refl _) hB1.size)
  clear hB1 s1 g2 hcpA
  go_wp2_with fail
  refine (clocks_c _ zs k2 _ s2 (by omega)).mono ?_; rintro e w3 ⟨Ac, nc, cc, cl, k3, rfl, hC3, hnc, s3, hk3, g3⟩
  have hL3 := hL2.keep (T := 25) (by decide) (s2.keep g3)
  have hB3 := hB2.trans (grown_below g3 (Nat.le_refl _) hB2.size)
  clear hL2 hB2 s2 g3 s3
  have hbx := below_new w3 (.cells r.cells 27)
  have K : K25 w w3.heap.size r A n l Ac nc cl (w3.alloc (.cells r.cells 27)) := ⟨hL3.below hbx, hC3.below hbx, heap_alloc_new w3 _, below_next hB3 hbx⟩
  clear hL3 hC3 hB3 hbx
  have hTb := Lib.hid (fun wx (h : Below w.heap.size w wx) => htab.below h)
  clear htab
  have hl := K.li.len
  obtain ⟨hv1, hv2⟩ := lenNat hok0
  obtain ⟨N, hN⟩ : ∃ N : Nat, (lenV r).toNat = N := ⟨_, rfl⟩
  rw [hN] at hv1 hv2
  have hN16 : N ≤ 16 := by omega
  have hF1 := Lib.hid (fun W h => clocksFault_c Ac nc cc cl W h)
  have hbo := Lib.hid (fun h => bothErr_of (cl := cl) h hsg)
  have hok := Lib.hid (fun h => both_ok (cl := cl) (l := l) h)
  have hLF := Lib.hid (fun W h1 h2 h3 h4 => laneFault_c Ac nc cc cl A n c l 1 1 W h1 h2 h3 h4 (by omega))
  have hcl : Hid (clkErr cl = 0 → laneErr cl l 1 1 = 0 → ∀ m : Int, 1 ≤ m → m ≤ 10 → clE r cl l 1 m = 0) := Lib.hid (fun h1 h2 m m1 m2 => by
    unfold clE ttE
    rw [if_neg (by simpa using hok0), if_neg (by simpa using bothErr_of h1 hsg)]; exact lane_any h2 m1 m2)
  have hSH := Lib.hid (fun W h1 h2 => padSheets_c r N (fun _ => ⟨hv1, hv2, hN16⟩) Ac nc cc cl A n c l 1 4 W h1 h2 (by omega))
  have hTD := Lib.hid (fun lane W h1 h2 => padTouched_c r N (fun _ => ⟨hv1, hv2, hN16⟩) Ac nc cc cl A n c l 1 lane W h1 h2 (by omega))
  have hTok := Lib.hid (fun (h0 : clkErr cl = 0) (h1 : laneErr cl l 1 1 = 0) (m : Nat) => show ∀ x ∈ tousV (fun lane => touT cl l N 1 lane) m, (0 ≤ x.pad ∧ x.pad ≤ 360000) ∧ (0 ≤ x.btn ∧ x.btn ≤ 360000) ∧ x.ws.length ≤ 3 ∧ ∀ y ∈ x.ws, 1 ≤ y ∧ y ≤ 360000 from fun x hx => by
    unfold tousV at hx
    obtain ⟨i, _, rfl⟩ := List.mem_map.1 hx
    exact touT_ok (bothErr_of h0 hsg) hv2 hN16 (Nat.le_refl _) (laneR_ok h1))
  have hHE := Lib.hid (fun (h0 : clkErr cl = 0) (h1 : laneErr cl l 1 1 = 0) T hT => touErr_all (N := N) (H := 1) (m := 4) (bothErr_of h0 hsg) hv2 hN16 (Nat.le_refl _) (laneR_ok h1) (by omega) T hT)
  rw [show (1 : Int).toNat = 1 from rfl, show (4 : Int).toNat = 4 from rfl] at hSH
  rw [show (1 : Int).toNat = 1 from rfl] at hTD
  have hVe : Hid (sheetsV cl l N 1 4 = shGo (fun lane => lapsV N (touV cl l 1 lane)) 0 (heatT (tousV (fun lane => touT cl l N 1 lane) 4))) := Lib.hid rfl
  have hVl := sheetsV_len cl l N 1 4
  have hKc := fun wx (h : K25 w w3.heap.size r A n l Ac nc cl wx) => h.cl_
  have hKl := fun wx (h : K25 w w3.heap.size r A n l Ac nc cl wx) => h.li
  have hKB := fun wx (h : K25 w w3.heap.size r A n l Ac nc cl wx) => h.bel
  have hKb := fun wx w' (h : K25 w w3.heap.size r A n l Ac nc cl wx) (hb : Below wx.heap.size wx w') => h.below hb
  have hKf' := fun wx (h : K25 w w3.heap.size r A n l Ac nc cl wx) => show ∀ i, wx.cell? ⟨w3.heap.size, i, none⟩ = r.cells[i]? from (blk_facts h.blk).1
  generalize K25 w w3.heap.size r A n l Ac nc cl = KK at *
  generalize clE r cl l 1 = CE at *
  generalize laneErr cl l 1 1 = LE at *
  generalize clkErr cl = CKE at *
  clear hok0 hl16 hN
  obtain ⟨key, metres, stroke, course, legs, sex, young, old⟩ := r
  dsimp only [Race.val, Race.cells] at *
  go_wp2_with fail
  generalize w3.heap.size = b4 at *
  refine (hF1.out _ (hKc _ K)).mono ?_; rintro e w4 ⟨rfl, B4⟩
  replace K := hKb _ _ K B4
  clear B4 hF1
  by_cases hC : CKE = 0
  rotate_left
  · have hd : (CKE != 0) = true := by simpa using hC
    clear hC hLF hTD hSH hcl hTok hHE
    go_wp2_with fail
    refine (h23_c _).mono ?_; rintro e w5 ⟨rfl, B5⟩
    replace K := hKb _ _ K B5
    have hfB := hKB _ K
    go_wp2
    go_ret
    exact ⟨rfl, hfB⟩
  obtain ⟨m1, m2, _, _⟩ := hok.out (hbo.out hC)
  have hLF2 := Lib.hid (fun W h1 h2 => hLF.out W h1 h2 m1 m2)
  have hcl2 := Lib.hid (hcl.out hC)
  have hTok2 := Lib.hid (hTok.out hC)
  have hHE2 := Lib.hid (hHE.out hC)
  subst hC
  clear hLF m1 m2 hok hbo hcl hTok hHE
  go_wp2_with fail
  refine (hLF2.out _ (hKc _ K) (hKl _ K)).mono ?_; rintro e w5 ⟨rfl, B5⟩
  replace K := hKb _ _ K B5
  clear B5 hLF2
  by_cases hL : LE = 0
  rotate_left
  · have hd : (LE != 0) = true := by simpa using hL
    clear hL hTD hSH hcl2 hTok2 hHE2
    go_wp2_with fail
    refine (h23_c _).mono ?_; rintro e w6 ⟨rfl, B6⟩
    replace K := hKb _ _ K B6
    have hfB := hKB _ K
    go_wp2
    go_ret
    exact ⟨rfl, hfB⟩
  have hce := Lib.hid (hcl2.out hL)
  have hTok3 := Lib.hid (hTok2.out hL)
  have hHE3 := Lib.hid (hHE2.out hL)
  subst hL
  clear hcl2 hTok2 hHE2 hsg
  rw [hce.out 4 (by omega) (by omega), if_pos rfl] at hSH
  have hTD2 := Lib.hid (fun (lane : Int) (q1 : 1 ≤ lane) (q2 : lane ≤ 10) W h1 h2 => show Calls Tryz.prog 20 #[.agg #[.string key, .int .i64 metres, .int .i64 stroke, .int .i64 course, .int .i64 legs, .int .i64 sex, .int .i64 young, .int .i64 old], .slice Ac nc cc, .slice A n c, .int .i64 1, .int .i64 lane] W (RetTouE W 0 (touT cl l N 1 lane)) by
    have := hTD.out lane W h1 h2
    rwa [hce.out lane q1 q2, if_pos rfl] at this)
  clear hTD hce
  generalize hft : (fun lane => touT cl l N 1 lane) = ft at *
  have hfte : ∀ lane, touT cl l N 1 lane = ft lane := fun lane => by rw [← hft]
  simp only [hfte] at hTD2
  generalize (fun lane => lapsV N (touV cl l 1 lane)) = lp at *
  generalize sheetsV cl l N 1 4 = SV at *
  have hHS4 : (heatT (tousV ft 4)).length = 4 := by rw [heatT_len, tousV_len]
  have hHSb := Lib.hid (heatT_bd (hTok3.out 4))
  generalize hHSe : heatT (tousV ft 4) = HS at *
  clear hft hfte hTok3
  have hHSe' := Lib.hid hHSe
  clear hHSe
  have hHS4' := Lib.hid hHS4
  have C7 := hKf' _ K
  go_wp2_with fail
  refine (hSH.out _ (hKc _ K) (hKl _ K)).mono ?_; rintro e w7 ⟨A7, c7, S, rfl, r7, d7, B7⟩
  replace K := hKb _ _ K B7
  clear hSH B7 C7
  have d7' := Lib.hid (d7.trans hVe.out)
  rw [hVl] at r7 ⊢
  clear hVe d7 hVl
  have hR7 := Lib.hid (fun W (B : Below w7.heap.size w7 W) => r7.below B)
  have hKW := Lib.hid (fun W (B : Below w7.heap.size w7 W) => hKb _ W K B)
  have T0 := TS.start w7
  have hz := hKB _ K
  clear r7
  go_wp2_with fail
  go_loopw [9, 10, 57] (fun u1 u2 iv wx => ∃ (k : Nat) (T : List Tc) (D : List Sd), k ≤ 4 ∧ iv = .int .i64 k ∧ TS w7 u1 T u2 D wx ∧ (T.length ≤ k ∧ D.length ≤ k) ∧ Hid (T.length = k ∧ D.length = k) ∧ Hid (T.map Tc.t3 = tousV ft k) ∧ Hid (D = sdGo 0 (HS.take k))) (fun _ _ iv _ => 4 - (intOf iv).toNat)
  case atStart => exact ⟨0, [], [], Nat.zero_le _, rfl, T0, ⟨Nat.le_refl _, Nat.le_refl _⟩, Lib.hid ⟨rfl, rfl⟩, Lib.hid rfl, Lib.hid rfl⟩
  case round =>
    clear T0
    obtain ⟨k, T, D, hk, rfl, I, ⟨hTk, hDk⟩, hTD3, hTt, hDd⟩ := hrel
    by_cases hlt : k < 4
    · obtain ⟨b, off, x, rfl, hb, hx, c0, c1, c2, c3, rL⟩ := (hR7.out _ I.bel).at4 hlt
      obtain ⟨y, hy⟩ := at_of_lt (l := HS) (k := k) (by omega)
      have hxd : x.lane = (k : Int) + 1 ∧ x.time = y.time := by
        have h1 : (S.map Shc.dat)[k]? = some x.dat := by rw [List.getElem?_map, hx]; rfl
        rw [d7'.out, shGo_get _ _ _ _ _ hy] at h1
        injection h1 with h1
        exact ⟨by rw [show x.lane = x.dat.lane from rfl, ← h1]; simp, by rw [show x.time = x.dat.time from rfl, ← h1]⟩
      have hDn := Lib.hid (show sdGo 0 (HS.take (k + 1)) = sdGo 0 (HS.take k) ++ [⟨nmL k, y.time⟩] by
        rw [List.take_add_one, hy, show (some y).toList = [y] from rfl, sdGo_snoc, List.length_take, hHS4'.out, Nat.zero_add, Nat.min_eq_left hk])
      obtain ⟨xl, xA, xn, xc, xp, xt, xb⟩ := x
      obtain ⟨e1, e2⟩ := hxd
      dsimp only at c0 c1 c2 c3 rL e1 e2 ⊢
      subst e1 e2
      obtain ⟨yt, yb⟩ := y
      dsimp only at c2 hDn ⊢
      clear hx hy rL
      obtain ⟨A1, q1, rfl⟩ := own_shape I.o1
      obtain ⟨A2, q2, rfl⟩ := own_shape I.o2
      have hn12 : some wr.heap.size ≠ (Value.slice A1 T.length q1).ownBlock := fun e => by have := (I.o1.lt _ e.symm).2; omega
      have hneB : ∀ i, (Value.slice A2 D.length q2).ownBlock = some i → i < wr.heap.size := fun i hi => (I.o2.lt i hi).2
      have hb12 := heap_alloc_new wr (.cells #[.int .i64 ((k : Int) + 1), .slice xA xn xc, .int .i64 yt, .int .i64 xb] 46)
      have I2 := I.below (below_new wr (.cells #[.int .i64 ((k : Int) + 1), .slice xA xn xc, .int .i64 yt, .int .i64 xb] 46))
      have K2 := hKW.out _ I2.bel
      have C2 := hKf' _ K2
      clear I
      go_wp2_with fail
      refine (hTD2.out _ (by omega) (by omega) _ (hKc _ K2) (hKl _ K2)).mono ?_; rintro e w8 ⟨A8, c8, rfl, r8, B8⟩
      have I3 := I2.below B8
      have hb8 := blk_below hb12 B8
      clear I2 K2 C2 B8 hb12 c0 c1 c2 c3
      generalize wr.heap.size = b12 at *
      generalize hfk : ft ((k : Int) + 1) = tk at *
      have hfk' := Lib.hid hfk
      clear hfk
      have I4 := I3.below (below_new w8 (.cells #[.int .i64 tk.pad, .int .i64 tk.btn, .slice A8 tk.ws.length c8] 48))
      have r9 := r8.below (below_new w8 (.cells #[.int .i64 tk.pad, .int .i64 tk.btn, .slice A8 tk.ws.length c8] 48))
      have hb9 := blk_alloc hb8 (.cells #[.int .i64 tk.pad, .int .i64 tk.btn, .slice A8 tk.ws.length c8] 48)
      have hown := Lib.hid I4.o1
      have hz4 := I4.bel.size
      clear I3 hb8 r8
      go_wp2_with (at_builtin; refine wpList_app rfl (.tmp 72) (.tmp 74) 40 rfl Tryz.underlying40 info_touchS rfl (by omega) (by omega) hown.out rfl rfl (by first | rfl | (simp; done)) rfl (by simp [Value.oneCell']) (by omega) hz4 ?_; intro v6 w6 hown6 hg6; have I6 := I4.app1 (x := ⟨tk.pad, tk.btn, A8, tk.ws.length, c8, tk.ws⟩) hown6 hg6 r9; have hb6 := blk_grown hb9 hg6 hn12; clear I4 hown6 hg6 hown r9 hb9)
      obtain ⟨i0, hi0, hx0, hx1, hx2⟩ := info_parts info_seed23
      have z0 : w6.cell? ⟨b12, 0, none⟩ = some (.int .i64 ((k : Int) + 1)) := (blk_facts hb6).1 0
      have z2 : w6.cell? ⟨b12, 2, none⟩ = some (.int .i64 yt) := (blk_facts hb6).1 2
      have lb6 := lt_of_heap hb6
      have hT6 := hTb.out _ (hKB _ (hKW.out _ I6.bel))
      have hsz9 := Lib.itoa_length_le ((k : Int) + 1) (by omega) (by omega)
      have hsz : 1 + (itoaS ((k : Int) + 1)).size ≤ 9223372036854775807 := by
        show 1 + (Lib.itoa ((k : Int) + 1)).toArray.size ≤ _
        rw [List.size_toArray]; omega
      have hsz2 : ¬ (1 + (itoaS ((k : Int) + 1)).size > 9223372036854775807) := by omega
      have hsz3 : ¬ (9223372036854775807 < 1 + (itoaS ((k : Int) + 1)).size) := by omega
      clear hsz9
      first | (go_region_held3 (fun w' => w'.cell? ⟨b12, 0, none⟩ = some (.int .i64 ((k : Int) + 1)) ∧ w'.cell? ⟨b12, 2, none⟩ = some (.int .i64 yt))
        (first | go_keep | with_reducible exact ⟨y0, y2⟩ | with_reducible exact ⟨q0, q2⟩ | with_reducible exact ⟨z0, z2⟩)
        (first
          | (go_at_call 21; (refine (itoa_c ((k : Int) + 1) _ hT6.drew (by omega) (by omega)).mono ?_; rintro e w9 ⟨rfl, B9⟩; have I9 := I6.drew.below B9; have hb10 := blk_below (w := World.drew _) hb6 B9; have y0 : w9.cell? ⟨b12, 0, none⟩ = some (.int .i64 ((k : Int) + 1)) := (blk_facts hb10).1 0; have y2 : w9.cell? ⟨b12, 2, none⟩ = some (.int .i64 yt) := (blk_facts hb10).1 2; have lb9 := lt_of_heap hb10; have hz9 := I9.bel.size; have ho9 := Lib.hid I9.o2))
          | (refine step_append_lies _ (by rfl) _ _ _ (by rfl) w7.heap.size 53 i0 _ 2 24 Tryz.underlying41 hi0 hx0 hx1 hx2 rfl (by omega) _ D.length (D.flatMap sdE) (by rfl) (ho9.out.alloc _) ⟨w9.heap.size, 0, none⟩ 1 1 [.string (⟨#[108]⟩ ++ itoaS ((k : Int) + 1)), .int .i64 yt] (by rfl) (by rfl) (World.news_of_block (cs := #[.string (⟨#[108]⟩ ++ itoaS ((k : Int) + 1)), .int .i64 yt]) (t := 53) (fr := (0, 0)) (heap_alloc_new w9 _)) (by simp [Value.oneCell']) (by omega) (by unfold maxLen; omega) (by omega) (by simp; omega) (w9.heap.size + 1) (by simp) ?_; intro gg cap w10 hown10 hgrow hat hlt10; have q0 := (hgrow.cell_far ⟨b12, 0, none⟩ (by simp; omega) (fun e => by have h9 : b12 < b12 := hneB _ e.symm; omega)).trans ((World.cell?_alloc_lt w9 _ ⟨b12, 0, none⟩ (by show b12 < w9.heap.size; omega)).trans y0); have q2 := (hgrow.cell_far ⟨b12, 2, none⟩ (by simp; omega) (fun e => by have h9 : b12 < b12 := hneB _ e.symm; omega)).trans ((World.cell?_alloc_lt w9 _ ⟨b12, 2, none⟩ (by show b12 < w9.heap.size; omega)).trans y2)))) | fail "held"
      have I10 := (I9.below (below_new w9 (.cells #[.string (⟨#[108]⟩ ++ itoaS ((k : Int) + 1)), .int .i64 yt] 53))).app2 (x := ⟨nmL k, yt⟩) hown10 hgrow
      clear I6 I9 hown10 hgrow hat hlt10 q0 q2 y0 y2 z0 z2 hi0 hx0 hx1 hx2 ho9 B9 hb10 hb6 hT6
      go_wp2
      go_roundw
      case rel =>
        refine ⟨k + 1, _, _, by omega, by go_num, I10, by simp only [List.length_append, List.length_cons, List.length_nil]; omega, Lib.hid (by simp only [List.length_append, List.length_cons, List.length_nil, hTD3.out.1, hTD3.out.2]; exact ⟨trivial, trivial⟩), Lib.hid ?_, Lib.hid ?_⟩
        · rw [List.map_append, hTt.out, tousV_succ, hfk'.out]; rfl
        · rw [hDd.out, hDn.out]
      case measure => first | (simp [intOf]; done) | (simp [intOf]; omega)
    · obtain rfl : k = 4 := by omega
      rw [show ((4 : Nat) : Int) = (4 : Int) from rfl]
      obtain ⟨A1, q1, rfl⟩ := own_shape I.o1
      obtain ⟨A2, q2, rfl⟩ := own_shape I.o2
      have hT4 := hTD3.out.1
      have hD4 := hTD3.out.2
      have rT := RTc.of_own I.o1 (by omega) I.ws
      have rD : RSd wr A2 D.length D := RN.of_own sdE_len I.o2 rfl (by omega)
      have hE := hHE3.out T hTt.out
      have hDe : D = sdGo 0 HS := by rw [hDd.out, List.take_of_length_le (by omega)]
      have hSE : seedErr D = 0 := by rw [hDe]; exact seeds4 hHS4 hHSb.out
      have hDt : Hid (∀ x ∈ D, 0 ≤ x.time) := Lib.hid (fun x hx => by
        rw [hDe] at hx
        obtain ⟨s, hs, e⟩ := sdGo_time HS 0 x hx
        rw [e]; exact (hHSb.out s hs).1)
      have hHt2 := Lib.hid (fun W h => heat_c A1 T.length q1 T W h)
      have hA : heatA T = HS := by unfold heatA; rw [if_pos hE, heatT_of T hTt.out]; exact hHSe'.out
      have hNl : heatN T = 4 := by unfold heatN; rw [if_pos hE]; exact hT4
      have hRk := Lib.hid (fun W h => rank23_c A2 D.length q2 D W h (by omega) hSE)
      have hRl : (rankL 1 (fun _ => 0) D).length = 4 := by rw [rankL_len]; exact hD4
      have hRp := Lib.hid (fun k x (h : (rankL 1 (fun _ => 0) D)[k]? = some x) => rank_plain hDt.out h)
      rw [hE, hA, hNl] at hHt2
      rw [hT4] at rT hHt2 ⊢
      rw [hD4] at rD hRk ⊢
      have hI := I.bel
      clear hE hDe hSE hA hNl hHE3 hTt hDd hTD3 hTk hDk I hT4 hD4 hDt hTD2 hTb
      generalize rankL 1 (fun _ => 0) D = R at *
      have hRl' := Lib.hid hRl
      clear hRl
      go_wp2_with fail
      refine (hHt2.out _ rT).mono ?_; rintro e w10 ⟨A10, c10, rfl, r10, B10⟩
      have rD2 := rD.below B10
      have hB10 := below_next hI B10
      clear hHt2 rT rD B10 hI
      go_wp2_with fail
      refine (hRk.out _ rD2).mono ?_; rintro e w11 ⟨A11, n11, c11, rfl, r11, B11, _⟩
      have r10b := r10.below B11
      have hB11 := below_next hB10 B11
      obtain rfl : n11 = 4 := by rw [← r11.len]; exact hRl'.out
      clear hRk rD2 r10 B11 hB10
      have hR10 := Lib.hid (fun W (B : Below w11.heap.size w11 W) => r10b.below B)
      have hR11 := Lib.hid (fun W (B : Below w11.heap.size w11 W) => r11.below B)
      have hB7 := Lib.hid (fun W (B : Below w11.heap.size w11 W) => below_next hB11 B)
      clear r10b r11 hB11
      go_wp2_with fail
      go_loopw [116] (fun iv wx => ∃ k : Nat, k ≤ 4 ∧ iv = .int .i64 k ∧ Below w11.heap.size w11 wx) (fun iv _ => 4 - (intOf iv).toNat)
      case atStart => exact ⟨0, Nat.zero_le _, rfl, Below.refl _ _⟩
      case round =>
        rename World => wx
        obtain ⟨k, hk, rfl, B⟩ := hrel
        by_cases hlt : k < 4
        · obtain ⟨b, off, x, rfl, hb, hx, c0, c1, c2, c3, _⟩ := (hR7.out _ (hB7.out _ B)).at4 hlt
          have B2 := B.alloc B.size (.cells #[.int .i64 x.lane, .slice x.A x.n x.c, .int .i64 x.time, .int .i64 x.by_] 46)
          obtain ⟨bS, oS, y, rfl, hbS, hy, s0, s1⟩ := RSm.atN (hR10.out _ B2) hlt
          have hxd : x.time = y.time ∧ x.by_ = y.by_ := by
            have h1 : (S.map Shc.dat)[k]? = some x.dat := by rw [List.getElem?_map, hx]; rfl
            rw [d7'.out, shGo_get _ _ _ _ _ hy] at h1
            injection h1 with h1
            exact ⟨by rw [show x.time = x.dat.time from rfl, ← h1], by rw [show x.by_ = x.dat.by_ from rfl, ← h1]⟩
          have hb9 := heap_alloc_new wx (.cells #[.int .i64 x.lane, .slice x.A x.n x.c, .int .i64 x.time, .int .i64 x.by_] 46)
          obtain ⟨xl, xA, xn, xc, xp, xt, xb⟩ := x
          obtain ⟨yt, yb⟩ := y
          obtain ⟨e1, e2⟩ := hxd
          dsimp only at c0 c1 c2 c3 s0 s1 e1 e2 B2 hb9 ⊢
          subst e1 e2
          have z2 := (blk_facts hb9).1 2
          have z3 := (blk_facts hb9).1 3
          clear hx hy hb9 B
          go_wp2_with fail
          go_quiet (fail)
          go_wp2
          go_roundw
          case rel => exact ⟨k + 1, by omega, by go_num, below_drewN B2 _⟩
          case measure => first | (simp [intOf]; done) | (simp [intOf]; omega)
        · obtain rfl : k = 4 := by omega
          rw [show ((4 : Nat) : Int) = (4 : Int) from rfl]
          have hR11b := Lib.hid (fun W (B' : Below wx.heap.size wx W) => hR11.out W (below_next B B'))
          have hfB0 := Lib.hid (fun W (B' : Below wx.heap.size wx W) => below_next hz (hB7.out W (below_next B B')))
          clear hR10 hR11 hB7 hR7 B d7' hKW
          go_wp2_with fail
          go_loopw [131] (fun iv wy => ∃ k : Nat, k ≤ 4 ∧ iv = .int .i64 k ∧ Below wx.heap.size wx wy) (fun iv _ => 4 - (intOf iv).toNat)
          case atStart => exact ⟨0, Nat.zero_le _, rfl, Below.refl _ _⟩
          case round =>
            rename World => wy
            obtain ⟨k, hk, rfl, B⟩ := hrel
            by_cases hlt : k < 4
            · obtain ⟨b, off, x, rfl, hb, hx, c0, c1, c2, c3⟩ := RRk.at4 (hR11b.out _ B) hlt
              obtain ⟨p1, p2, p3, p4⟩ := hRp.out k x hx
              have B2 := B.alloc B.size (.cells #[.string x.who, .int .i64 x.rank, .int .i64 x.time, .int .i64 x.fault] 61)
              have hb9 := heap_alloc_new wy (.cells #[.string x.who, .int .i64 x.rank, .int .i64 x.time, .int .i64 x.fault] 61)
              have hpv : 1 ≤ k → 0 < x.rank → ∃ yt : Int, (wy.alloc (.cells #[.string x.who, .int .i64 x.rank, .int .i64 x.time, .int .i64 x.fault] 61)).cell? ⟨b, off + (k - 1) * 4 + 2, none⟩ = some (.int .i64 yt) ∧ ¬ x.time < yt := fun h1 h2 => by
                obtain ⟨y, hy, hle⟩ := p4 h1 h2
                obtain ⟨b', off', y', hA', _, hy', _, _, d2, _⟩ := RRk.at4 (hR11b.out _ B2) (k := k - 1) (by omega)
                injection hA' with hA'; injection hA' with q1 q2; subst q1 q2
                rw [hy] at hy'; injection hy' with hy'; subst hy'
                exact ⟨y.time, d2, by omega⟩
              obtain ⟨who, rank, time, fault⟩ := x
              dsimp only at *
              have z1 := (blk_facts hb9).1 1
              have z2 := (blk_facts hb9).1 2
              have hq1 : ((k : Int) - 1).toNat = k - 1 := by omega
              clear hx hb9 B
              go_wp2_with fail
              clear c0 c1 c2 c3
              rcases p3 with h0 | h0
              · have ht0 := p1.1 h0
                subst h0 ht0
                clear hpv p1 p4
                rcases Nat.eq_zero_or_pos k with rfl | hk1
                · go_quiet (fail)
                  go_wp2
                  go_roundw
                  case rel => exact ⟨0 + 1, by omega, by go_num, below_drewN B2 _⟩
                  case measure => first | (simp [intOf]; done) | (simp [intOf]; omega)
                · have g1 : decide ((0 : Int) < (k : Int)) = true := decide_eq_true (by omega)
                  have g2 : decide (0 < k) = true := decide_eq_true (by omega)
                  go_quiet (fail)
                  go_wp2
                  go_roundw
                  case rel => exact ⟨k + 1, by omega, by go_num, below_drewN B2 _⟩
                  case measure => first | (simp [intOf]; done) | (simp [intOf]; omega)
              · have hr0 : (rank == 0) = false := by rw [beq_eq_false_iff_ne]; omega
                have ht0 : (time == 0) = false := by rw [beq_eq_false_iff_ne]; intro e; have := p1.2 e; omega
                have g3 : decide (0 < rank) = true := decide_eq_true (by omega)
                rcases Nat.eq_zero_or_pos k with rfl | hk1
                · clear hpv p1 p4
                  go_quiet (fail)
                  go_wp2
                  go_roundw
                  case rel => exact ⟨0 + 1, by omega, by go_num, below_drewN B2 _⟩
                  case measure => first | (simp [intOf]; done) | (simp [intOf]; omega)
                · obtain ⟨yt, d2, hlt2⟩ := hpv hk1 (by omega)
                  have g1 : decide ((0 : Int) < (k : Int)) = true := decide_eq_true (by omega)
                  have g2 : decide (0 < k) = true := decide_eq_true (by omega)
                  have g4 : decide (time < yt) = false := decide_eq_false (by omega)
                  have v2 : (1 : Int) ≤ (k : Int) := by omega
                  clear p1 p4
                  go_quiet (fail)
                  go_wp2
                  go_roundw
                  case rel => exact ⟨k + 1, by omega, by go_num, below_drewN B2 _⟩
                  case measure => first | (simp [intOf]; done) | (simp [intOf]; omega)
            · obtain rfl : k = 4 := by omega
              have hfB := hfB0.out _ B
              clear hR11b hfB0 hRp B
              go_wp2_with fail
              refine (h23_c _).mono ?_; rintro e w13 ⟨rfl, B13⟩
              have hfB2 := below_next hfB B13
              go_wp2
              go_ret
              exact ⟨rfl, hfB2⟩
end Go.Proofs.YtcdnjehkkbnfbaaGreatDoor
