import Derived.Test.YtpepdkgkdbnakaaGreatDoorPadC
import Derived.Test.YtpepdkgkdbnakaaGreatDoorSortS
/- pad.signals, tumbref1.ofLane. Printed by wip/genpadd.py. -/
namespace Go.Proofs.YtpepdkgkdbnakaaGreatDoor
open Go.RowKit Go.Shelf Go.Lib Go.Sort
set_option linter.unusedVariables false

/-- a list under way: a row of the call's own -/
structure OL {α : Type} (enc : α → List Value) (size : Nat) (e : TypeId) (w : World) (u : Value) (L : List α) (wx : World) : Prop where
  own : wx.ownsRow w.heap.size e size u L.length (L.flatMap enc)
  bel : Below w.heap.size w wx
section
variable {α : Type} {enc : α → List Value} {size : Nat} {e : TypeId} {w wx w' : World} {u v' : Value} {L : List α} {x : α}
theorem OL.below (h : OL enc size e w u L wx) (B : Below wx.heap.size wx w') : OL enc size e w u L w' := ⟨own_below h.own B, below_next h.bel B⟩
theorem OL.app (h : OL enc size e w u L wx) (ho : w'.ownsRow w.heap.size e size v' (L.length + 1) (L.flatMap enc ++ enc x)) (hg : wx.grownBy w' u.ownBlock) : OL enc size e w v' (L ++ [x]) w' :=
  ⟨by rw [← flat_snoc, List.length_append]; exact ho, below_own h.bel h.own hg h.bel.size (Nat.le_refl _)⟩
theorem OL.start (enc : α → List Value) (size : Nat) (e : TypeId) (w : World) : OL enc size e w (.slice none 0 0) [] w := ⟨World.ownsRow_nil _ _ _ _, Below.refl _ _⟩
end
/-- a signal with its right moment -/
structure Td where
  x : Sg
  tm : Int
instance : Inhabited Td := ⟨⟨default, 0⟩⟩
/-- as the program tells it: with the hundredths after a start -/
def tdE8 (s0 : Int) (t : Td) : List Value := [.string t.x.dev, .int .i64 t.x.no, .int .i64 t.x.kind, .int .i64 t.x.tm, .int .i64 t.x.lane, .int .i64 t.x.time, .int .i64 t.tm, .int .i64 (Int.tdiv (t.tm - s0) 10)]
def tdE7 (t : Td) : List Value := [.string t.x.dev, .int .i64 t.x.no, .int .i64 t.x.kind, .int .i64 t.x.tm, .int .i64 t.x.lane, .int .i64 t.x.time, .int .i64 t.tm]
theorem tdE8_len (s0 : Int) : ∀ x, (tdE8 s0 x).length = 8 := fun _ => rfl
theorem tdE7_len : ∀ x, (tdE7 x).length = 7 := fun _ => rfl
theorem info_told : (Tryz.prog.info? 293).map (fun i => (i.zero, i.size, i.bytes)) = some (some (.agg #[.string ⟨#[]⟩, .int .i64 0, .int .i64 0, .int .i64 0, .int .i64 0, .int .i64 0, .int .i64 0, .int .i64 0]), 8, 72) := by kernel_rfl
def tdCf (x y : Td) : Int := Lib.compareInt x.tm y.tm
/-- the signals of a kind of a lane of a heat, as they come -/
def lnGo (cl : List Ck) (S : List Int) (H : Nat) (lane kind : Int) : List Sg → List Td
  | [] => []
  | x :: r => if (x.kind = kind ∧ x.lane = lane) ∧ ct (rightV cl x.dev x.tm) S = H then ⟨x, rightV cl x.dev x.tm⟩ :: lnGo cl S H lane kind r else lnGo cl S H lane kind r
theorem lnGo_at {cl : List Ck} {S : List Int} {H : Nat} {lane kind : Int} {l : List Sg} {k : Nat} {x : Sg} (h : l[k]? = some x) : lnGo cl S H lane kind (l.drop k) = if (x.kind = kind ∧ x.lane = lane) ∧ ct (rightV cl x.dev x.tm) S = H then ⟨x, rightV cl x.dev x.tm⟩ :: lnGo cl S H lane kind (l.drop (k + 1)) else lnGo cl S H lane kind (l.drop (k + 1)) := by rw [drop_at h]; rfl
theorem lnGo_len (cl : List Ck) (S : List Int) (H : Nat) (lane kind : Int) : ∀ l : List Sg, (lnGo cl S H lane kind l).length ≤ l.length
  | [] => Nat.le_refl _
  | x :: r => by
    have := lnGo_len cl S H lane kind r
    unfold lnGo
    split <;> (simp only [List.length_cons]; omega)
/-- .. by their right moments -/
def tdL (cl : List Ck) (l : List Sg) (H : Nat) (lane kind : Int) : List Td := insL (ltOf tdCf) (lnGo cl (startsV cl l) H lane kind l)
theorem tdL_len (cl : List Ck) (l : List Sg) (H : Nat) (lane kind : Int) : (tdL cl l H lane kind).length ≤ l.length := by
  unfold tdL; rw [insL_len]; exact lnGo_len _ _ _ _ _ _
def s0V (cl : List Ck) (l : List Sg) (H : Nat) : Int := (startsV cl l).getD (H - 1) 0
theorem startsV_bd (cl : List Ck) (l : List Sg) : ∀ x ∈ startsV cl l, 0 ≤ x ∧ x ≤ 345686399999 := by
  intro x hx
  have h1 := (compact_sub _).subset hx
  rw [List.mem_mergeSort] at h1
  have h2 : ∀ (l : List Sg), x ∈ stGo cl l → 0 ≤ x ∧ x ≤ 345686399999 := by
    intro l
    induction l with
    | nil => intro h; cases h
    | cons y r ih =>
      intro h
      unfold stGo at h
      split at h
      · rcases List.mem_cons.1 h with rfl | h
        · exact rightV_bd cl _ _
        · exact ih h
      · exact ih h
  exact h2 l h1
theorem tdCmpA_c (s0 : Int) (x y : Td) (W : World) : Calls Tryz.prog 310 (#[.agg (tdE8 s0 x).toArray, .agg (tdE8 s0 y).toArray] ++ #[]) W fun e w' => e = .returned (.int .i64 (tdCf x y)) ∧ Below W.heap.size W w' ∧ W.drawn ≤ w'.drawn := by
  have hV := Lib.hid (fun W => show Calls Tryz.prog 125 #[.int .i64 x.tm, .int .i64 y.tm] W fun e w' => e = .returned (.int .i64 (tdCf x y)) ∧ W = w' from (Tryz.cmp_Compare_int x.tm y.tm W).mono fun _ _ ⟨h1, h2⟩ => ⟨h1, h2.symm⟩)
  generalize tdCf x y = V at *
  obtain ⟨⟨a, b, c, d, f, t⟩, m⟩ := x
  obtain ⟨⟨a', b', c', d', f', t'⟩, m'⟩ := y
  dsimp only [tdE8] at *
  have hb0 := heap_alloc_new W (.cells #[.string a, .int .i64 b, .int .i64 c, .int .i64 d, .int .i64 f, .int .i64 t, .int .i64 m, .int .i64 (Int.tdiv (m - s0) 10)] 293)
  have hb1 := blk_alloc hb0 (.cells #[.string a', .int .i64 b', .int .i64 c', .int .i64 d', .int .i64 f', .int .i64 t', .int .i64 m', .int .i64 (Int.tdiv (m' - s0) 10)] 293)
  have hb2 := heap_alloc_new (W.alloc (.cells #[.string a, .int .i64 b, .int .i64 c, .int .i64 d, .int .i64 f, .int .i64 t, .int .i64 m, .int .i64 (Int.tdiv (m - s0) 10)] 293)) (.cells #[.string a', .int .i64 b', .int .i64 c', .int .i64 d', .int .i64 f', .int .i64 t', .int .i64 m', .int .i64 (Int.tdiv (m' - s0) 10)] 293)
  rw [alloc_sizeS] at hb2
  have hBB := below_box (below_box (Below.refl ((W.alloc (.cells #[.string a, .int .i64 b, .int .i64 c, .int .i64 d, .int .i64 f, .int .i64 t, .int .i64 m, .int .i64 (Int.tdiv (m - s0) 10)] 293)).alloc (.cells #[.string a', .int .i64 b', .int .i64 c', .int .i64 d', .int .i64 f', .int .i64 t', .int .i64 m', .int .i64 (Int.tdiv (m' - s0) 10)] 293)).heap.size _))
  have hD : ((W.alloc (.cells #[.string a, .int .i64 b, .int .i64 c, .int .i64 d, .int .i64 f, .int .i64 t, .int .i64 m, .int .i64 (Int.tdiv (m - s0) 10)] 293)).alloc (.cells #[.string a', .int .i64 b', .int .i64 c', .int .i64 d', .int .i64 f', .int .i64 t', .int .i64 m', .int .i64 (Int.tdiv (m' - s0) 10)] 293)).drawn = W.drawn := rfl
  have z0 := (blk_facts hb1).1 6
  have y0 := (blk_facts hb2).1 6
  go_enter Tryz.func310, Tryz.ntmps310
  go_wp2_with (go_at_call 125; refine (hV.out _).mono ?_; rintro e w' ⟨rfl, rfl⟩)
  go_ret
  exact ⟨rfl, hBB, by rw [hD]; exact Nat.le_refl _⟩
theorem tdSortA_c (s0 : Int) (l : List Td) (w : World) (base n : Nat) (u : Value) (hown : w.ownsRow base 293 8 u n (l.flatMap (tdE8 s0))) (hn : n ≤ 19) :
    Calls Tryz.prog 309 #[u, .func (.func 310) #[] #[]] w fun e w' => e = .returned (.tuple #[]) ∧ w'.ownsRow base 293 8 u n ((insL (ltOf tdCf) l).flatMap (tdE8 s0)) ∧ w.grownBy w' u.ownBlock := by
  obtain ⟨A, c, rfl⟩ := own_shape hown
  have hlen := own_len (tdE8_len s0) (by decide) hown
  rcases Nat.eq_zero_or_pos n with h0 | hp
  · subst h0
    have hl : l = [] := List.eq_nil_of_length_eq_zero hlen
    subst hl
    refine (tdSort0_c A c _ w).mono ?_
    rintro e w' ⟨rfl, rfl⟩
    have h9 : insL (ltOf tdCf) ([] : List Td) = [] := List.eq_nil_of_length_eq_zero (by rw [insL_len]; rfl)
    exact ⟨rfl, by rw [h9]; exact hown, grown_refl _ _⟩
  obtain ⟨gb, rfl, hgb⟩ := own_someN hown hp
  have eg : ∀ args w, (callFunc 310 args).run Tryz.prog w = .ok (.enter 310 args) w := enters_of Tryz.func310 (by kernel_rfl) rfl
  refine (tdSort_c (tdE8 s0) (tdE8_len s0) (fun x v hv => by simp [tdE8] at hv; rcases hv with rfl | rfl | rfl | rfl | rfl | rfl | rfl | rfl <;> rfl) tdCf _ _ eg base gb n c l w (fun m os dk hdk x y => ?_) hown hn).mono ?_
  · exact (tdCmpA_c s0 x y _).mono fun _ _ ⟨he, hB, hD⟩ => ⟨he, grow_of hB hD⟩
  · rintro e w' ⟨rfl, ho, hg⟩
    exact ⟨rfl, ho, hg⟩
theorem td10_bd {a : Int} (h0 : -4611686018427387904 ≤ a) (h1 : a ≤ 4611686018427387904) : -9223372036854775808 ≤ a.tdiv 10 ∧ a.tdiv 10 ≤ 9223372036854775807 := by
  have h2 : (a.tdiv 10).natAbs ≤ a.natAbs := by rw [Int.natAbs_tdiv]; exact Nat.div_le_self _ _
  omega
def CapOk (A : Option Addr) (n c : Nat) : Prop := (A = none ∧ n = 0 ∧ c = 0) ∨ ∃ b, A = some ⟨b, 0, none⟩ ∧ n ≤ c
theorem capOk_own {w : World} {base : Nat} {e : TypeId} {size n c : Nat} {A : Option Addr} {xs : List Value} (h : w.ownsRow base e size (.slice A n c) n xs) : CapOk A n c := by
  rcases h.2 with ⟨h9, h0⟩ | ⟨g9, cap, cur, hv9, h1, h2, h3, h4⟩
  · injection h9 with e1 e2 e3
    exact .inl ⟨e1, h0, e3⟩
  · injection hv9 with e1 e2 e3
    exact .inr ⟨g9, e1, by omega⟩
def RetTd8 (w : World) (s0 : Int) (L : List Td) (e : Ending) (w' : World) : Prop := ∃ A c, e = .returned (.slice A L.length c) ∧ RN 8 (tdE8 s0) 293 w' A L.length L ∧ Below w.heap.size w w' ∧ CapOk A L.length c
set_option maxHeartbeats 6400000 in
set_option maxRecDepth 100000 in
theorem padSignals_c (Ac : Option Addr) (nc cc : Nat) (cl : List Ck) (A : Option Addr) (n c : Nat) (l : List Sg) (w : World) (hc : RCk w Ac nc cl) (h : RSg w A n l) (hcb : CkBd cl) (hsb : SgBd l) (hn : n ≤ 19) (H : Nat) (h1 : 1 ≤ H) (h2 : H ≤ (startsV cl l).length) (lane kind : Int) :
    Calls Tryz.prog 246 #[.slice Ac nc cc, .slice A n c, .int .i64 H, .int .i64 lane, .int .i64 kind] w (RetTd8 w (s0V cl l H) (tdL cl l H lane kind)) := by
  have hR := Lib.hid (fun W B => h.below (w' := W) B)
  have hl := Lib.hid h.len
  have hSt := Lib.hid (padStarts_c Ac nc cc cl A n c l w hc h hcb hsb (by omega))
  have hRt := Lib.hid (fun k x (h : l[k]? = some x) W B => padRight_c Ac nc cc cl x.dev x.tm W (hc.below (w' := W) B) hcb (hsb x (List.mem_of_getElem? h)))
  have hHo := Lib.hid (fun A n c W tm h => show Calls Tryz.prog 308 #[.slice A n c, .int .i64 tm] W fun e w' => e = .returned (.int .i64 (ct tm (startsV cl l) : Nat)) ∧ W = w' by rw [← tw_ct tm (startsV_sorted cl l)]; exact padHeatOf_c A n c (startsV cl l) tm W h)
  have hGa := Lib.hid (fun k x (h : l[k]? = some x) => lnGo_at (cl := cl) (S := startsV cl l) (H := H) (lane := lane) (kind := kind) h)
  have hG0 := Lib.hid (show lnGo cl (startsV cl l) H lane kind [] = [] from rfl)
  have hGn := lnGo_len cl (startsV cl l) H lane kind l
  have hV := Lib.hid (show tdL cl l H lane kind = insL (ltOf tdCf) (lnGo cl (startsV cl l) H lane kind l) from rfl)
  have hVl : (tdL cl l H lane kind).length = (lnGo cl (startsV cl l) H lane kind l).length := by unfold tdL; rw [insL_len]
  have hs0 : (startsV cl l)[H - 1]? = some (s0V cl l H) := by unfold s0V; rw [List.getD_eq_getElem?_getD, List.getElem?_eq_getElem (by omega)]; rfl
  have hsb0 := startsV_bd cl l _ (List.mem_of_getElem? hs0)
  have hrb := Lib.hid (rightV_bd cl)
  have hSl := startsV_len cl l
  have hll := h.len
  generalize tdL cl l H lane kind = V at *
  generalize s0V cl l H = s0 at *
  generalize lnGo cl (startsV cl l) H lane kind = SGo at *
  generalize startsV cl l = S at *
  generalize rightV cl = RV at *
  clear h hc hcb hsb
  go_enter Tryz.func246, Tryz.ntmps246
  go_wp2_with fail
  refine hSt.out.mono ?_; rintro e w1 ⟨A1, cz, rfl, ho1, B1⟩
  have hS1 : RI 3 w1 A1 S.length S := R1.of_own ho1 (by omega)
  obtain ⟨bS, oS, sx, rfl, lS, hsx, cS⟩ := hS1.at_ (k := H - 1) (by omega)
  obtain rfl : sx = s0 := by rw [hs0] at hsx; exact (Option.some.inj hsx).symm
  have hSk := Lib.hid (fun W (B : Below w1.heap.size w1 W) => hS1.below B)
  have hO0 := OL.start (tdE8 sx) 8 293 w1
  clear hSt ho1 hS1 hs0 hsx
  go_wp2_with fail
  go_loopw [12, 21] (fun out i wr => ∃ (k : Nat) (acc : List Td), k ≤ n ∧ i = .int .i64 k ∧ OL (tdE8 sx) 8 293 w1 out acc wr ∧ acc.length ≤ k ∧ Hid (acc ++ SGo (l.drop k) = SGo l)) (fun _ i _ => n - (intOf i).toNat)
  case atStart => exact ⟨0, [], Nat.zero_le _, rfl, hO0, Nat.le_refl _, Lib.hid rfl⟩
  case round =>
    clear hO0
    obtain ⟨k, acc, hk, rfl, hO, hac, hF⟩ := hrel
    by_cases hlt : k < n
    · obtain ⟨b, off, x, rfl, hbl, hx, c0, c1, c2, c3, c4, c5⟩ := RSg_at6 (hR.out _ (below_next B1 hO.bel)) hlt
      have hS := Lib.hid (hGa.out k x hx)
      have hRx := Lib.hid (fun W B => hRt.out k x hx W B)
      have hmw := hO.bel.size
      obtain ⟨Ao, co, rfl⟩ := own_shape hO.own
      have hnr : some wr.heap.size ≠ (Value.slice Ao acc.length co).ownBlock := fun e => by have := (hO.own.lt _ e.symm).2; omega
      clear hx
      obtain ⟨dev, no, kd, tm, ln, time⟩ := x
      dsimp only at *
      have hOn := hO.below (below_new wr (.cells #[.string dev, .int .i64 no, .int .i64 kd, .int .i64 tm, .int .i64 ln, .int .i64 time] 133))
      have hn0 := heap_alloc_new wr (.cells #[.string dev, .int .i64 no, .int .i64 kd, .int .i64 tm, .int .i64 ln, .int .i64 time] 133)
      have hrv := hrb.out dev tm
      generalize RV dev tm = rv at *
      go_wp2_with fail
      refine (hRx.out _ (below_next B1 hOn.bel)).mono ?_; rintro e w6 ⟨rfl, B6⟩
      have hO6 := hOn.below B6
      have hb6 := (B6.block wr.heap.size (lt_of_heap hn0)).trans hn0
      have x0 := (blk_facts hb6).1 0
      have x1 := (blk_facts hb6).1 1
      have x2 := (blk_facts hb6).1 2
      have x3 := (blk_facts hb6).1 3
      have x4 := (blk_facts hb6).1 4
      have x5 := (blk_facts hb6).1 5
      have hz6 := hO6.bel.size
      have hHx := Lib.hid (hHo.out _ _ cz _ rv (hSk.out _ hO6.bel))
      have hS6 : w6.cell? ⟨bS, oS + (H - 1), none⟩ = some (.int .i64 sx) := (hO6.bel.cell (p := ⟨bS, oS + (H - 1), none⟩) lS).trans cS
      generalize ct rv S = q at *
      clear hn0 B6 hOn hO hRx
      by_cases hkd : kd = kind
      rotate_left
      · have hS2 := Lib.hid (show acc ++ SGo (l.drop (k + 1)) = SGo l by rw [← hF.out, hS.out, if_neg (fun h => hkd h.1.1)])
        clear hS hF hHx
        go_wp2
        go_roundw
        case rel => exact ⟨k + 1, acc, by omega, by go_num, hO6, by omega, hS2⟩
        case measure => simp [intOf]; omega
      by_cases hln : ln = lane
      rotate_left
      · have hS2 := Lib.hid (show acc ++ SGo (l.drop (k + 1)) = SGo l by rw [← hF.out, hS.out, if_neg (fun h => hln h.1.2)])
        clear hS hF hHx
        go_wp2
        go_roundw
        case rel => exact ⟨k + 1, acc, by omega, by go_num, hO6, by omega, hS2⟩
        case measure => simp [intOf]; omega
      by_cases hq : q = H
      rotate_left
      · have hS2 := Lib.hid (show acc ++ SGo (l.drop (k + 1)) = SGo l by rw [← hF.out, hS.out, if_neg (fun h => hq h.2)])
        have hq1 : ¬ ((q : Nat) : Int) = (H : Nat) := by omega
        clear hS hF
        go_wp2_with (go_at_call 308; refine hHx.out.mono ?_; rintro e w' ⟨rfl, rfl⟩)
        go_roundw
        case rel => exact ⟨k + 1, acc, by omega, by go_num, hO6, by omega, hS2⟩
        case measure => simp [intOf]; omega
      have hS2 := Lib.hid (show acc ++ [(⟨⟨dev, no, kd, tm, ln, time⟩, rv⟩ : Td)] ++ SGo (l.drop (k + 1)) = SGo l by rw [← hF.out, hS.out, if_pos ⟨⟨hkd, hln⟩, hq⟩, List.append_assoc]; rfl)
      clear hS hF
      subst hkd hln hq
      go_wp2_with (go_at_call 308; refine hHx.out.mono ?_; rintro e w' ⟨rfl, rfl⟩)
      have u1 : IntKind.i64.wrap ((q : Int) - 1) = (q : Int) - 1 := IntWalk.i64_in _ (by omega)
      have u2 : 0 ≤ (q : Int) - 1 := by omega
      have u3 : ((q : Int) - 1).toNat = q - 1 := by omega
      have u4 : (q : Int) - 1 < (S.length : Nat) := by omega
      have u5 : (1 : Int) ≤ (q : Int) := by omega
      have u6 : IntKind.i64.wrap (rv - sx) = rv - sx := IntWalk.i64_in _ (by omega)
      have lb6 := lt_of_heap hb6
      have lS6 : bS < w6.heap.size := Nat.lt_of_lt_of_le lS hz6
      obtain ⟨i0, hi0, hx0, hx1, hx2⟩ := info_parts info_told
      have hown6 := Lib.hid hO6.own
      have hnb : some wr.heap.size ≠ (Value.slice Ao acc.length co).ownBlock := hnr
      generalize wr.heap.size = b7 at *
      have u7 : IntKind.i64.wrap ((rv - sx).tdiv 10) = (rv - sx).tdiv 10 := IntWalk.i64_in _ (td10_bd (by omega) (by omega))
      have hne : ∀ z, z < w1.heap.size → some z ≠ (Value.slice Ao acc.length co).ownBlock := fun z hz e => by have := own_row_lt hown6.out z e.symm; omega
      have hneS := hne bS lS
      have hneB : some b7 ≠ (Value.slice Ao acc.length co).ownBlock := fun e => hnb e
      go_region_held3 (fun w' => w'.cell? ⟨b7, 0, none⟩ = some (.string dev) ∧ w'.cell? ⟨b7, 1, none⟩ = some (.int .i64 no) ∧ w'.cell? ⟨b7, 2, none⟩ = some (.int .i64 kd) ∧ w'.cell? ⟨b7, 3, none⟩ = some (.int .i64 tm) ∧ w'.cell? ⟨b7, 4, none⟩ = some (.int .i64 ln) ∧ w'.cell? ⟨b7, 5, none⟩ = some (.int .i64 time) ∧ w'.cell? ⟨bS, oS + (q - 1), none⟩ = some (.int .i64 sx))
        (first | go_keep | with_reducible exact ⟨q0, q1, q2, q3, q4, q5, q6⟩)
        (first
          | (refine step_append_lies _ (by rfl) _ _ _ (by rfl) w1.heap.size 293 i0 _ 8 72 Tryz.underlying290 hi0 hx0 hx1 hx2 rfl (by omega) _ acc.length (acc.flatMap (tdE8 sx)) (by rfl) (hown6.out.drew.alloc _) ⟨w6.heap.size, 0, none⟩ 1 1 [.string dev, .int .i64 no, .int .i64 kd, .int .i64 tm, .int .i64 ln, .int .i64 time, .int .i64 rv, .int .i64 ((rv - sx).tdiv 10)] (by rfl) (by rfl) (World.news_of_block (cs := #[.string dev, .int .i64 no, .int .i64 kd, .int .i64 tm, .int .i64 ln, .int .i64 time, .int .i64 rv, .int .i64 ((rv - sx).tdiv 10)]) (t := 293) (fr := (0, 0)) (heap_alloc_new w6.drew _)) (by simp [Value.oneCell']) (by omega) (by unfold maxLen; omega) (by omega) (by simp; omega) (w6.heap.size + 1) (by simp) ?_; intro gg cap w9 hown9 hgrow hat hlt9; have q0 := (hgrow.cell_far ⟨b7, 0, none⟩ (by simp; omega) hneB).trans ((World.cell?_alloc_lt w6.drew _ ⟨b7, 0, none⟩ (by show b7 < w6.heap.size; omega)).trans x0); have q1 := (hgrow.cell_far ⟨b7, 1, none⟩ (by simp; omega) hneB).trans ((World.cell?_alloc_lt w6.drew _ ⟨b7, 1, none⟩ (by show b7 < w6.heap.size; omega)).trans x1); have q2 := (hgrow.cell_far ⟨b7, 2, none⟩ (by simp; omega) hneB).trans ((World.cell?_alloc_lt w6.drew _ ⟨b7, 2, none⟩ (by show b7 < w6.heap.size; omega)).trans x2); have q3 := (hgrow.cell_far ⟨b7, 3, none⟩ (by simp; omega) hneB).trans ((World.cell?_alloc_lt w6.drew _ ⟨b7, 3, none⟩ (by show b7 < w6.heap.size; omega)).trans x3); have q4 := (hgrow.cell_far ⟨b7, 4, none⟩ (by simp; omega) hneB).trans ((World.cell?_alloc_lt w6.drew _ ⟨b7, 4, none⟩ (by show b7 < w6.heap.size; omega)).trans x4); have q5 := (hgrow.cell_far ⟨b7, 5, none⟩ (by simp; omega) hneB).trans ((World.cell?_alloc_lt w6.drew _ ⟨b7, 5, none⟩ (by show b7 < w6.heap.size; omega)).trans x5); have q6 := (hgrow.cell_far ⟨bS, oS + (q - 1), none⟩ (by simp; omega) hneS).trans ((World.cell?_alloc_lt w6.drew _ ⟨bS, oS + (q - 1), none⟩ (by show bS < w6.heap.size; omega)).trans hS6)))
      have ho9 : w9.ownsRow w1.heap.size 293 8 (.slice (some ⟨gg, 0, none⟩) (acc.length + 1) cap) (acc.length + 1) (acc.flatMap (tdE8 sx) ++ tdE8 sx ⟨⟨dev, no, kd, tm, ln, time⟩, rv⟩) := hown9
      have hB9 : Below w1.heap.size w1 w9 := below_own ((below_drewN hO6.bel 1).alloc hz6 _) (hown6.out.drew.alloc _) hgrow (by simp; omega) (Nat.le_refl _)
      have hO9 : OL (tdE8 sx) 8 293 w1 (.slice (some ⟨gg, 0, none⟩) (acc.length + 1) cap) (acc ++ [⟨⟨dev, no, kd, tm, ln, time⟩, rv⟩]) w9 := ⟨by rw [← flat_snoc, List.length_append]; exact ho9, hB9⟩
      clear hown9 hgrow hat hlt9 q0 q1 q2 q3 q4 q5 q6 x0 x1 x2 x3 x4 x5 hi0 hx0 hx1 hx2 hown6 ho9 hB9 hO6
      go_wp2
      go_roundw
      case rel => exact ⟨k + 1, _, by omega, by go_num, hO9, by rw [List.length_append]; simp; omega, hS2⟩
      case measure => simp [intOf]; omega
    · obtain rfl : k = n := by omega
      have hA : Hid (acc = SGo l) := Lib.hid (by rw [← hF.out, drop_end (by rw [hl.out]; exact Nat.le_refl _), hG0.out, List.append_nil])
      have hAl : acc.length = V.length := by rw [hVl, hA.out]
      obtain ⟨A', c', rfl⟩ := own_shape hO.own
      have hbel := hO.bel
      have hown := Lib.hid hO.own
      have hm19 : (SGo l).length ≤ 19 := by omega
      have hS1 := Lib.hid (tdSortA_c sx acc wr w1.heap.size acc.length (.slice A' acc.length c') hown.out (by omega))
      rw [hA.out, ← hV.out] at hS1
      rw [hA.out] at hown
      have hgl := Lib.hid hVl.symm
      rw [hA.out]
      clear hF hO hV hVl hAl
      generalize (SGo l).length = m at *
      go_wp2_with fail
      refine hS1.out.mono ?_; rintro e w6 ⟨rfl, ho6, hg6⟩
      have hb6 := below_next B1 (below_own hbel hown.out hg6 hbel.size (Nat.le_refl _))
      obtain rfl := hgl.out
      have hRf := RN.of_own (tdE8_len sx) ho6 rfl (by omega)
      have hcp := Lib.hid (capOk_own ho6)
      clear hS1 hown hg6 ho6
      go_wp2
      go_ret
      exact ⟨A', c', rfl, hRf, hb6, hcp.out⟩
end Go.Proofs.YtpepdkgkdbnakaaGreatDoor

/- tumbref1.ofLane. Printed by wip/genpadd.py. -/
namespace Go.Proofs.YtpepdkgkdbnakaaGreatDoor
open Go.RowKit Go.Shelf Go.Lib Go.Sort
set_option linter.unusedVariables false

end Go.Proofs.YtpepdkgkdbnakaaGreatDoor

/- pad.touches, tumbref1.hundredths, pad.Touches, tumbref1.TouchesOf. Printed by wip/genpadf.py. -/
namespace Go.Proofs.YtpepdkgkdbnakaaGreatDoor
open Go.RowKit Go.Shelf Go.Lib Go.Sort
set_option linter.unusedVariables false

theorem own_base {w : World} {base base' n size : Nat} {e : TypeId} {v : Value} {xs : List Value} (h : w.ownsRow base e size v n xs) (hb : base' ≤ base) : w.ownsRow base' e size v n xs :=
  ⟨h.1, h.2.imp id (fun ⟨g, cap, cur, hv, hbg, hr⟩ => ⟨g, cap, cur, hv, Nat.le_trans hb hbg, hr⟩)⟩
/-- the hundredths after a start that are times -/
def huGo (s0 : Int) : List Td → List Int
  | [] => []
  | x :: r => if (x.tm - s0).tdiv 10 ≤ 360000 then (x.tm - s0).tdiv 10 :: huGo s0 r else huGo s0 r
theorem huGo_at {s0 : Int} {l : List Td} {k : Nat} {x : Td} (h : l[k]? = some x) : huGo s0 (l.drop k) = if (x.tm - s0).tdiv 10 ≤ 360000 then (x.tm - s0).tdiv 10 :: huGo s0 (l.drop (k + 1)) else huGo s0 (l.drop (k + 1)) := by rw [drop_at h]; rfl
theorem huGo_len (s0 : Int) : ∀ l : List Td, (huGo s0 l).length ≤ l.length
  | [] => Nat.le_refl _
  | x :: r => by
    have := huGo_len s0 r
    unfold huGo
    split <;> (simp only [List.length_cons]; omega)
def touV (cl : List Ck) (l : List Sg) (H : Nat) (lane : Int) : List Int := Lib.compact (huGo (s0V cl l H) (tdL cl l H lane 2))
theorem touV_len (cl : List Ck) (l : List Sg) (H : Nat) (lane : Int) : (touV cl l H lane).length ≤ l.length :=
  Nat.le_trans (Lib.compact_length_le _) (Nat.le_trans (huGo_len _ _) (tdL_len _ _ _ _ _))
theorem tdL_bd (cl : List Ck) (l : List Sg) (H : Nat) (lane kind : Int) : ∀ x ∈ tdL cl l H lane kind, 0 ≤ x.tm ∧ x.tm ≤ 345686399999 := by
  intro x hx
  unfold tdL at hx
  have hS : SWO (ltOf tdCf) := by
    refine ⟨fun a => ?_, fun a b c => ?_, fun a b c => ?_⟩ <;> unfold ltOf tdCf Lib.compareInt <;> intros <;> (simp at *) <;> (try omega)
    all_goals (repeat' split at *) <;> (try omega) <;> simp_all <;> omega
  have h1 := (insL_spec hS (lnGo cl (startsV cl l) H lane kind l)).1.subset hx
  have h2 : ∀ (l : List Sg) (S : List Int), x ∈ lnGo cl S H lane kind l → 0 ≤ x.tm ∧ x.tm ≤ 345686399999 := by
    intro l S
    induction l with
    | nil => intro h; cases h
    | cons y r ih =>
      intro h
      unfold lnGo at h
      split at h
      · rcases List.mem_cons.1 h with rfl | h
        · exact rightV_bd cl _ _
        · exact ih h
      · exact ih h
  exact h2 _ _ h1
set_option maxHeartbeats 3200000 in
set_option maxRecDepth 100000 in
theorem padTouches_c (Ac : Option Addr) (nc cc : Nat) (cl : List Ck) (A : Option Addr) (n c : Nat) (l : List Sg) (w : World) (hc : RCk w Ac nc cl) (h : RSg w A n l) (hcb : CkBd cl) (hsb : SgBd l) (hn : n ≤ 19) (H : Nat) (h1 : 1 ≤ H) (h2 : H ≤ (startsV cl l).length) (lane : Int) :
    Calls Tryz.prog 189 #[.slice Ac nc cc, .slice A n c, .int .i64 H, .int .i64 lane] w (RetI w (touV cl l H lane)) := by
  have hP := Lib.hid (padSignals_c Ac nc cc cl A n c l w hc h hcb hsb hn H h1 h2 lane 2)
  have hV := Lib.hid (show touV cl l H lane = Lib.compact (huGo (s0V cl l H) (tdL cl l H lane 2)) from rfl)
  have hTl := tdL_len cl l H lane 2
  rw [h.len] at hTl
  generalize touV cl l H lane = V at *
  generalize tdL cl l H lane 2 = T at *
  generalize s0V cl l H = sx at *
  have hGa := Lib.hid (fun k x (h : T[k]? = some x) => huGo_at (s0 := sx) h)
  have hG0 := Lib.hid (show huGo sx [] = [] from rfl)
  have hGl := huGo_len sx T
  generalize huGo sx = SG at *
  clear h hc hcb hsb h2
  go_enter Tryz.func189, Tryz.ntmps189
  go_wp2_with fail
  refine hP.out.mono ?_; rintro e w1 ⟨A1, cz, rfl, hR1, B1, _⟩
  have hRk := Lib.hid (fun W (B : Below w1.heap.size w1 W) => hR1.below B)
  have hO0 := IL.start w1
  clear hP hR1
  go_wp2_with fail
  go_loopw [9, 18] (fun out i wr => ∃ (k : Nat) (acc : List Int), k ≤ T.length ∧ i = .int .i64 k ∧ IL w1 out acc wr ∧ acc.length ≤ k ∧ Hid (acc ++ SG (T.drop k) = SG T)) (fun _ i _ => T.length - (intOf i).toNat)
  case atStart => exact ⟨0, [], Nat.zero_le _, rfl, hO0, Nat.le_refl _, Lib.hid rfl⟩
  case round =>
    clear hO0
    obtain ⟨k, acc, hk, rfl, hI, hac, hF⟩ := hrel
    by_cases hlt : k < T.length
    · obtain ⟨b, off, x, rfl, hbl, hx, hcs⟩ := (hRk.out _ hI.bel).at_ hlt
      have c0 : wr.cell? ⟨b, off + k * 8, none⟩ = some (.string x.x.dev) := hcs 0 _ rfl
      have c1 := hcs 1 _ rfl
      have c2 := hcs 2 _ rfl
      have c3 := hcs 3 _ rfl
      have c4 := hcs 4 _ rfl
      have c5 := hcs 5 _ rfl
      have c6 := hcs 6 _ rfl
      have c7 := hcs 7 _ rfl
      have hS := Lib.hid (hGa.out k x hx)
      have hmw := hI.bel.size
      have hlti : (k : Int) < (T.length : Nat) := by omega
      clear hx hcs
      obtain ⟨⟨dev, no, kd, tm, ln, time⟩, at9⟩ := x
      dsimp only at *
      have hIn := hI.below (below_new wr (.cells #[.string dev, .int .i64 no, .int .i64 kd, .int .i64 tm, .int .i64 ln, .int .i64 time, .int .i64 at9, .int .i64 ((at9 - sx).tdiv 10)] 293))
      generalize (at9 - sx).tdiv 10 = hu at *
      by_cases hle : hu ≤ 360000
      · have hS2 := Lib.hid (show acc ++ [hu] ++ SG (T.drop (k + 1)) = SG T by rw [← hF.out, hS.out, if_pos hle, List.append_assoc]; rfl)
        have hown := Lib.hid hIn.own
        have hz := hIn.bel.size
        have hmw2 : w1.heap.size ≤ wr.heap.size + 1 := by omega
        clear hS hF hI
        go_wp2_with (at_builtin; refine wpList_app rfl (.tmp 25) (.tmp 28) 22 rfl Tryz.underlying22 info_int rfl (by omega) (by omega) hown.out rfl rfl (by first | rfl | (simp; done)) (by rfl) (by simp [Value.oneCell']) (by omega) hz ?_; intro v7 w7 hown7 hg7)
        have hI7 := hIn.app hown7 hg7
        clear hIn hown7 hg7 hown
        go_roundw
        case rel => exact ⟨k + 1, _, by omega, by go_num, hI7, by rw [List.length_append]; simp; omega, hS2⟩
        case measure => simp [intOf]; omega
      · have hS2 := Lib.hid (show acc ++ SG (T.drop (k + 1)) = SG T by rw [← hF.out, hS.out, if_neg hle])
        clear hS hF hI
        go_wp2
        go_roundw
        case rel => exact ⟨k + 1, acc, by omega, by go_num, hIn, by omega, hS2⟩
        case measure => simp [intOf]; omega
    · obtain rfl : k = T.length := by omega
      have hA : Hid (acc = SG T) := Lib.hid (by rw [← hF.out, drop_end (Nat.le_refl _), hG0.out, List.append_nil])
      obtain ⟨A', c', rfl⟩ := own_shape hI.own
      have hbel := hI.bel
      have hown := Lib.hid hI.own
      have hC1 := Lib.hid (compactAny_c w1.heap.size A' acc.length c' acc wr hown.out (by omega))
      rw [hA.out, ← hV.out] at hC1
      rw [hA.out] at hown
      rw [hA.out]
      clear hF hI hV hA
      generalize (SG T).length = m at *
      go_wp2_with fail
      refine hC1.out.mono ?_; rintro e w7 ⟨rfl, ho7, hg7⟩
      have hb7 := below_next B1 (below_own hbel hown.out hg7 hbel.size (Nat.le_refl _))
      have ho8 := own_base ho7 B1.size
      clear hC1 hg7 ho7 hown
      go_wp2
      go_ret
      exact ⟨A', c', rfl, ho8, hb7⟩
def ttE (cl : List Ck) (l : List Sg) (heat lane : Int) : Int := if bothErr cl l ≠ 0 then bothErr cl l else laneErr cl l heat lane
theorem ttE_ok {cl : List Ck} {l : List Sg} {heat lane : Int} (h : ttE cl l heat lane = 0) : bothErr cl l = 0 ∧ 1 ≤ heat ∧ heat ≤ (startsV cl l).length := by
  unfold ttE at h
  split at h
  · rename_i h1; exact absurd h h1
  · rename_i h1
    unfold laneErr at h
    split at h
    · cases h
    · rename_i h2
      split at h
      · cases h
      · exact ⟨Decidable.not_not.1 h1, by omega, by omega⟩
theorem touches26_c (Ac : Option Addr) (nc cc : Nat) (cl : List Ck) (A : Option Addr) (n c : Nat) (l : List Sg) (heat lane : Int) (w : World) (hc : RCk w Ac nc cl) (h : RSg w A n l) (hn : n ≤ 19) :
    Calls Tryz.prog 91 #[.slice Ac nc cc, .slice A n c, .int .i64 heat, .int .i64 lane] w (RetSt2 w (ttE cl l heat lane) (if ttE cl l heat lane = 0 then touV cl l heat.toNat lane else [])) := by
  have hCh := Lib.hid (show Calls Tryz.prog 188 #[.slice Ac nc cc, .slice A n c, .int .i64 heat, .int .i64 lane] w fun e w' => e = .returned (.int .i64 (ttE cl l heat lane)) ∧ Below w.heap.size w w' from checkHeat_c Ac nc cc cl A n c l heat lane w hc h)
  have hTo := Lib.hid (fun (h0 : ttE cl l heat lane = 0) W (B : Below w.heap.size w W) => show Calls Tryz.prog 189 #[.slice Ac nc cc, .slice A n c, .int .i64 heat, .int .i64 lane] W (RetI W (touV cl l heat.toNat lane)) by
    obtain ⟨k1, k2, k3⟩ := ttE_ok h0
    obtain ⟨m1, m2, m3, m4⟩ := both_ok k1
    have := padTouches_c Ac nc cc cl A n c l W (hc.below B) (h.below B) m1 m2 hn heat.toNat (by omega) (by omega) lane
    rwa [show ((heat.toNat : Nat) : Int) = heat from by omega] at this)
  have htl := touV_len cl l heat.toNat lane
  rw [h.len] at htl
  generalize touV cl l heat.toNat lane = V at *
  generalize ttE cl l heat lane = E at *
  clear hc h
  by_cases h0 : E = 0
  rotate_left
  · have hd : (E != 0) = true := by simpa using h0
    rw [if_neg h0]
    clear h0 hTo
    go_enter Tryz.func91, Tryz.ntmps91
    go_wp2_with fail
    refine hCh.out.mono ?_; rintro e w1 ⟨rfl, B1⟩
    go_wp2
    go_ret2
    exact ⟨none, 0, rfl, R1.nil_ _ _ _ _, B1⟩
  subst h0
  rw [if_pos rfl]
  have hTo2 := Lib.hid (fun W B => hTo.out rfl W B)
  clear hTo
  go_enter Tryz.func91, Tryz.ntmps91
  go_wp2_with fail
  refine hCh.out.mono ?_; rintro e w1 ⟨rfl, B1⟩
  clear hCh
  go_wp2_with fail
  refine (hTo2.out _ B1).mono ?_; rintro e w2 ⟨A1, c1, rfl, ho, hB2⟩
  have hB := below_next B1 hB2
  have hR := R1.of_own ho (by omega)
  clear hTo2 ho B1 hB2
  go_wp2
  go_ret2
  exact ⟨A1, c1, rfl, hR, hB⟩
end Go.Proofs.YtpepdkgkdbnakaaGreatDoor
