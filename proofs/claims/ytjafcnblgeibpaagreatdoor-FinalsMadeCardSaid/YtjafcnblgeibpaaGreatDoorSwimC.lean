/- heat.SwimOff, tumbref1.SwimOffOf: the names of those who swim again. -/
import Derived.Test.YtjafcnblgeibpaaGreatDoorGrpS
namespace Go.Proofs.YtjafcnblgeibpaaGreatDoor
open Go.RowKit Go.Shelf Go.Lib Go.Sort
set_option linter.unusedVariables false

/-- names that lie in a row of slices -/
structure Nx where
  A : Option Addr
  c : Nat
  ids : List ByteArray
def nxE (x : Nx) : List Value := [.slice x.A x.ids.length x.c]
theorem nxE_len : ∀ x, (nxE x).length = 1 := fun _ => rfl
def RNx (w : World) (A : Option Addr) (n : Nat) (L : List Nx) : Prop := RN 1 nxE 49 w A n L ∧ ∀ x ∈ L, RS 9 w x.A x.ids.length x.ids ∧ (x.A = none → x.c = 0)
theorem RNx.below {w w' : World} {A : Option Addr} {n : Nat} {L : List Nx} (h : RNx w A n L) (B : Below w.heap.size w w') : RNx w' A n L := ⟨h.1.below B, fun x hx => ⟨(h.2 x hx).1.below B, (h.2 x hx).2⟩⟩
theorem RNx_at {w : World} {A : Option Addr} {n : Nat} {L : List Nx} (h : RNx w A n L) {k : Nat} (hk : k < n) : ∃ b off x, A = some ⟨b, off, none⟩ ∧ b < w.heap.size ∧ L[k]? = some x ∧ w.cell? ⟨b, off + k, none⟩ = some (.slice x.A x.ids.length x.c) ∧ RS 9 w x.A x.ids.length x.ids ∧ (x.A = none → x.c = 0) := by
  obtain ⟨b, off, x, hA, hb, hx, hc⟩ := h.1.at_ hk
  exact ⟨b, off, x, hA, hb, hx, by simpa using hc 0 _ rfl, h.2 x (List.mem_of_getElem? hx)⟩
theorem info_names : (Tryz.prog.info? 49).map (fun i => (i.zero, i.size, i.bytes)) = some (some (.slice none 0 0), 1, 24) := by kernel_rfl

theorem keep_ownN {w w' : World} {B n size : Nat} {e : TypeId} {u : Value} {xs : List Value} (h : w.ownsRow B e size u n xs) (hg : w.grownBy w' u.ownBlock) : Keep e w w' := by
  intro b cs e' fz hne hb
  refine (hg.block b (lt_of_heap hb) (fun e0 => ?_)).trans hb
  rcases h.2 with ⟨rfl, _⟩ | ⟨g, cap, cur, rfl, _, hg', _⟩
  · simp [Value.ownBlock] at e0
  · simp only [Value.ownBlock, Option.some.injEq] at e0
    subst e0
    rw [hg'] at hb
    injection hb with hb
    injection hb with _ h3
    exact hne h3.symm
/-- rows of names under way -/
structure NsK (w : World) (u : Value) (L : List Nx) (wx : World) : Prop where
  o : wx.ownsRow w.heap.size 49 1 u L.length (L.flatMap nxE)
  r : ∀ x ∈ L, RS 9 wx x.A x.ids.length x.ids ∧ (x.A = none → x.c = 0)
  bel : Below w.heap.size w wx
section
variable {w wx w' : World} {u v' : Value} {L : List Nx} {x : Nx}
theorem NsK.start (B : Below w.heap.size w wx) : NsK w (.slice none 0 0) [] wx := ⟨World.ownsRow_nil _ _ _ _, (fun x h => by cases h), B⟩
theorem NsK.below (h : NsK w u L wx) (B : Below wx.heap.size wx w') : NsK w u L w' := ⟨own_below h.o B, fun x hx => ⟨(h.r x hx).1.below B, (h.r x hx).2⟩, below_next h.bel B⟩
theorem NsK.app (h : NsK w u L wx) (hx : RS 9 wx x.A x.ids.length x.ids) (hxc : x.A = none → x.c = 0) (ho : w'.ownsRow w.heap.size 49 1 v' (L.length + 1) (L.flatMap nxE ++ nxE x)) (hg : wx.grownBy w' u.ownBlock) : NsK w v' (L ++ [x]) w' := by
  have hk := keep_ownN h.o hg
  refine ⟨by rw [List.length_append, List.flatMap_append, List.flatMap_singleton]; exact ho, fun y hy => ?_, below_own h.bel h.o hg h.bel.size (Nat.le_refl _)⟩
  rcases List.mem_append.1 hy with hy | hy
  · exact ⟨(h.r y hy).1.keep (by decide) hk, (h.r y hy).2⟩
  · obtain rfl := List.mem_singleton.1 hy
    exact ⟨hx.keep (by decide) hk, hxc⟩
theorem NsK.fin {A : Option Addr} {c : Nat} (h : NsK w (.slice A L.length c) L wx) (hb : L.length ≤ 140737488355328) : RNx wx A L.length L := ⟨RN.of_own nxE_len h.o rfl hb, h.r⟩
end
theorem RN.mid {α : Type} {size : Nat} {enc : α → List Value} {e : TypeId} {w : World} {b n lo hi : Nat} {l : List α} (h : RN size enc e w (some ⟨b, 0, none⟩) n l) (h0 : lo ≤ hi) (h1 : hi ≤ n) : RN size enc e w (some ⟨b, lo * size, none⟩) (hi - lo) ((l.drop lo).take (hi - lo)) := by
  have hl := h.len
  refine ⟨by rw [List.length_take, List.length_drop]; omega, by have := h.2.1; omega, fun hp => ?_⟩
  obtain ⟨b', o', cs, fz, hA, hb, hc⟩ := h.2.2 (by omega)
  injection hA with hA
  injection hA with e1 e2
  subst e1 e2
  refine ⟨b, lo * size, cs, fz, rfl, hb, fun k x hx i u hu => ?_⟩
  have hk : k < hi - lo := by have := lt_of_at hx; rw [List.length_take] at this; omega
  rw [List.getElem?_take_of_lt hk, List.getElem?_drop] at hx
  have := hc (lo + k) x hx i u hu
  rw [show 0 + (lo + k) * size + i = lo * size + k * size + i by rw [Nat.add_mul]; omega] at this
  exact this
def CapN (A : Option Addr) (n c : Nat) : Prop := (A = none ∧ n = 0 ∧ c = 0) ∨ ∃ b, A = some ⟨b, 0, none⟩ ∧ n ≤ c
theorem capN_own {w : World} {base : Nat} {e : TypeId} {size n c : Nat} {A : Option Addr} {xs : List Value} (h : w.ownsRow base e size (.slice A n c) n xs) : CapN A n c := by
  rcases h.2 with ⟨h9, h0⟩ | ⟨g9, cap, cur, hv9, h1, h2, h3, h4⟩
  · injection h9 with e1 e2 e3
    exact .inl ⟨e1, h0, e3⟩
  · injection hv9 with e1 e2 e3
    exact .inr ⟨g9, e1, by omega⟩
theorem capN_none {A : Option Addr} {n c : Nat} (h : CapN A n c) : A = none → c = 0 := by
  rcases h with ⟨_, _, h⟩ | ⟨b, h, _⟩
  · exact fun _ => h
  · rw [h]; exact fun e => by cases e
/-- the names of a group -/
def nmsOf (L : List Sd) (g : Nat × Nat) : List ByteArray := ((L.drop g.1).take (g.2 - g.1)).map Sd.who
def offV (f : Fl) (L : List Sd) : List (List ByteArray) := (grpV f L).map (nmsOf L)
theorem grpV_len (f : Fl) (L : List Sd) : (grpV f L).length ≤ L.length := by have := grpL_len f L 0; unfold grpV; omega
def RetOff (w : World) (V : List (List ByteArray)) (u : Value) (w' : World) : Prop := ∃ (A : Option Addr) (c : Nat) (L : List Nx), u = .slice A L.length c ∧ RNx w' A L.length L ∧ CapN A L.length c ∧ L.map Nx.ids = V ∧ Below w.heap.size w w'
/-- heat.checkFinals -/
theorem checkFinals_c (f : Fl) (A : Option Addr) (n c : Nat) (l : List Sd) (w : World) (h : RSd w A n l) :
    Calls Tryz.prog 85 #[f.val, .slice A n c] w fun e w' => e = .returned (.int .i64 (if finErr f ≠ 0 then finErr f else seedErr l)) ∧ Below w.heap.size w w' := by
  have hC := Lib.hid (fun W => checkFinal_c f W)
  have hCS := Lib.hid (fun W h => checkSeeds_c A n c l W h)
  have z0 : FinB w.heap.size f (w.alloc (.cells f.cells 27)) := heap_alloc_new w _
  have hB := below_new w (.cells f.cells 27)
  obtain ⟨y0, y1, y2⟩ := z0.at_
  have hWB := Lib.hid (fun v B => h.below (w' := v) B)
  clear h z0
  generalize finErr f = FE at *
  generalize seedErr l = SE at *
  obtain ⟨sz, mn, rs⟩ := f
  dsimp only [Fl.val, Fl.cells] at *
  by_cases hf : FE = 0
  · subst hf
    rw [if_neg (by simp)]
    go_enter Tryz.func85, Tryz.ntmps85
    go_wp2_with fail
    refine (hC.out _).mono ?_; rintro e w1 ⟨rfl, B1⟩
    have hB1 := below_next hB B1
    go_wp2_with fail
    refine (hCS.out _ (hWB.out _ hB1)).mono ?_; rintro e w2 ⟨rfl, B2⟩
    have hB2 := below_next hB1 B2
    go_wp2
    go_ret
    exact ⟨rfl, hB2⟩
  · rw [if_pos hf]
    have hb : (FE != 0) = true := by simpa using hf
    clear hf
    go_enter Tryz.func85, Tryz.ntmps85
    go_wp2_with fail
    refine (hC.out _).mono ?_; rintro e w1 ⟨rfl, B1⟩
    have hB1 := below_next hB B1
    go_wp2
    go_ret
    exact ⟨rfl, hB1⟩
set_option maxHeartbeats 3200000 in
set_option maxRecDepth 100000 in
theorem swimOff_c (f : Fl) (hf : FlOk f) (A : Option Addr) (n c : Nat) (l : List Sd) (w : World) (h : RSd w A n l) (hn : n ≤ 19) (h0 : seedErr l = 0) :
    Calls Tryz.prog 18 #[f.val, .slice A n c] w fun e w' => ∃ u, e = .returned (.tuple #[u, .int .i64 0]) ∧ RetOff w (offV f (finL l)) u w' := by
  have hCF := Lib.hid (fun W h => checkFinals_c f A n c l W h)
  rw [show finErr f = 0 from if_pos hf, h0, if_neg (by simp)] at hCF
  obtain ⟨_, hso⟩ := seedErr_ok h0
  have hFi := Lib.hid (fun W h => finished_c A n c l W h hn (fun x hx => (hso x hx).2))
  have hGr := Lib.hid (fun A2 n2 c2 W h h2 => groups_c f hf A2 n2 c2 (finL l) W h h2)
  have hGb := Lib.hid (fun g (h : g ∈ grpV f (finL l)) => show g.1 < g.2 ∧ g.2 ≤ (finL l).length from (grpL_bd f (finL l) 0 g h).2)
  have hGn := Lib.hid (grpV_len f (finL l))
  have hV := Lib.hid (show offV f (finL l) = (grpV f (finL l)).map (nmsOf (finL l)) from rfl)
  have hFn := Lib.hid (finL_len l)
  have hln := Lib.hid h.len
  have hF0 : FinB w.heap.size f (w.alloc (.cells f.cells 27)) := heap_alloc_new w _
  have hB0 := below_new w (.cells f.cells 27)
  have hFk := Lib.hid (fun a v (h : FinB w.heap.size f a) B => FinB.keep a v h B)
  have hFa := Lib.hid (fun v (h : FinB w.heap.size f v) => h.at_)
  have hR := Lib.hid (fun W B => h.below (w' := W) B)
  clear h h0 hso
  generalize offV f (finL l) = OV at *
  generalize grpV f (finL l) = GV at *
  generalize finL l = F at *
  obtain ⟨sz, mn, rs⟩ := f
  dsimp only [Fl.val, Fl.cells] at *
  generalize FinB w.heap.size ⟨sz, mn, rs⟩ = FB at *
  obtain ⟨y0, y1, y2⟩ := hFa.out _ hF0
  go_enter Tryz.func18, Tryz.ntmps18
  go_wp2_with fail
  refine (hCF.out _ (hR.out _ hB0)).mono ?_; rintro e w1 ⟨rfl, B1⟩
  have hB1 := below_next hB0 B1
  have hF1 := hFk.out _ _ hF0 B1
  have hr1 := hR.out _ hB1
  clear hF0 hB0 B1 y0 y1 y2 hCF
  go_wp2_with fail
  refine (hFi.out _ hr1).mono ?_; rintro e w2 ⟨A2, n2, c2, rfl, ho2, hn2, B2⟩
  have hB2 := below_next hB1 B2
  have hF2 := hFk.out _ _ hF1 B2
  obtain ⟨y0, y1, y2⟩ := hFa.out _ hF2
  have hl2 := own_len sdE_len (by decide) ho2
  have hr2 : RSd w2 A2 n2 F := RN.of_own sdE_len ho2 hl2 (by omega)
  have hcp := Lib.hid (capN_own ho2)
  have hl2' := Lib.hid hl2
  clear hF1 hB1 B2 hFi ho2 hl2 hr1
  go_wp2_with fail
  refine (hGr.out A2 n2 c2 _ hr2 (by omega)).mono ?_; rintro e w3 ⟨A3, c3, rfl, r3, B3⟩
  have hB3 := below_next hB2 B3
  have hr3 := hr2.below B3
  have K0 : NsK w3 (.slice none 0 0) [] w3 := NsK.start (Below.refl _ _)
  have hRF := Lib.hid (fun W (B : Below w3.heap.size w3 W) => hr3.below B)
  have hRG := Lib.hid (fun W (B : Below w3.heap.size w3 W) => r3.below B)
  have hGl : GV.length ≤ 19 := by have := hGn.out; have := hFn.out; have := hln.out; omega
  have hsd := Lib.hid Tryz.sizeOf86
  clear hF2 hB2 B3 hGr hr2 hr3 r3 y0 y1 y2
  go_wp2_with fail
  go_loopw [8, 11, 26] (fun u _ iv wr => ∃ (k : Nat) (L : List Nx), k ≤ GV.length ∧ iv = .int .i64 k ∧ L.length = k ∧ NsK w3 u L wr ∧ Hid (L.map Nx.ids = (GV.take k).map (nmsOf F))) (fun _ _ iv _ => GV.length - (intOf iv).toNat)
  case atStart => exact ⟨0, [], Nat.zero_le _, rfl, rfl, K0, Lib.hid rfl⟩
  case round =>
    clear K0
    rename World => wr
    obtain ⟨k, L, hk, rfl, hLk, K, hG⟩ := hrel
    obtain ⟨A5, c5, rfl⟩ := own_shape K.o
    by_cases hlt : k < GV.length
    · obtain ⟨b, off, g, rfl, hbl, hg, c0, c1⟩ := RGr_at2 (hRG.out _ K.bel) hlt
      obtain ⟨g0, g1⟩ := hGb.out g (List.mem_of_getElem? hg)
      have hG2 := Lib.hid (show (L.map Nx.ids) ++ [nmsOf F g] = (GV.take (k + 1)).map (nmsOf F) by rw [hG.out, List.take_add_one, hg, List.map_append]; rfl)
      obtain ⟨lo, hi⟩ := g
      dsimp only at *
      rw [hl2'.out] at g1
      rcases hcp.out with ⟨_, h9, _⟩ | ⟨bF, hAF, hcF⟩
      · omega
      subst hAF
      have hmid := Lib.hid (fun W (B : Below w3.heap.size w3 W) => (hRF.out W B).mid (lo := lo) (hi := hi) (by omega) (by omega))
      have j0 : (0 : Int) ≤ (lo : Int) := by omega
      have j1 : (lo : Int) ≤ (hi : Int) := by omega
      have j2 : (hi : Int) ≤ (c2 : Int) := by omega
      have hb5 := heap_alloc_new wr (.cells #[.int .i64 lo, .int .i64 hi] 126)
      have x0 := (blk_facts hb5).1 0
      have x1 := (blk_facts hb5).1 1
      have K5 := K.below (below_new wr (.cells #[.int .i64 lo, .int .i64 hi] 126))
      clear hg hG hb5 K
      go_wp2_with fail
      generalize wr.alloc (.cells #[.int .i64 lo, .int .i64 hi] 126) = w5 at *
      have hNl : (nmsOf F (lo, hi)).length = hi - lo := by unfold nmsOf; rw [List.length_map, List.length_take, List.length_drop, hl2'.out]; dsimp only; omega
      have hNl' := Lib.hid hNl
      have hNa := Lib.hid (fun (j : Nat) (x : Sd) (h : ((F.drop lo).take (hi - lo))[j]? = some x) => show (nmsOf F (lo, hi)).take (j + 1) = (nmsOf F (lo, hi)).take j ++ [x.who] by
        unfold nmsOf; dsimp only; rw [List.take_add_one, List.getElem?_map, h]; rfl)
      generalize nmsOf F (lo, hi) = NM at *
      clear hNl c0 c1
      go_loopw [11, 37] (fun u2 jv wx => ∃ (j : Nat), j ≤ hi - lo ∧ jv = .int .i64 j ∧ wx.ownsRow w5.heap.size 9 1 u2 j ((NM.take j).map Value.string) ∧ Below w5.heap.size w5 wx) (fun _ jv _ => (hi - lo) - (intOf jv).toNat)
      case atStart => exact ⟨0, Nat.zero_le _, rfl, World.ownsRow_nil _ _ _ _, Below.refl _ _⟩
      case round =>
        rename World => wx
        obtain ⟨j, hj, rfl, hown, hB⟩ := hrel
        obtain ⟨A6, c6, rfl⟩ := own_shape hown
        by_cases hjl : j < hi - lo
        · obtain ⟨b, off, x, hA, hbl, hx, c0, c1⟩ := RSd_at2 (hmid.out _ (below_next K5.bel hB)) hjl
          injection hA with hA
          injection hA with e1 e2
          subst e1 e2
          have hN2 := Lib.hid (hNa.out j x hx)
          obtain ⟨who, time⟩ := x
          dsimp only at *
          have hB7 := below_next hB (below_new wx (.cells #[.string who, .int .i64 time] 86))
          have ho7 := hown.alloc (.cells #[.string who, .int .i64 time] 86)
          have hz7 := hB7.size
          have z0 := (blk_facts (heap_alloc_new wx (.cells #[.string who, .int .i64 time] 86))).1 0
          clear hx hown hB
          go_wp2_with (at_builtin; refine wpList_app rfl (.tmp 41) (.tmp 44) 49 rfl Tryz.underlying49 info_str rfl (by omega) (by omega) ho7 rfl rfl (by first | rfl | (simp; done)) rfl (by simp [Value.oneCell']) (by omega) hz7 ?_; intro v8 w8 hown8 hg8)
          have hB8 := below_own hB7 ho7 hg8 hz7 (Nat.le_refl _)
          go_roundw
          case rel => exact ⟨_, _, _, ⟨j + 1, by omega, by go_num, by rw [← List.map_take, hN2.out, List.map_append]; exact hown8, hB8⟩, rfl, rfl, rfl⟩
          case measure => simp [intOf]; omega
        · obtain rfl : j = hi - lo := by omega
          have hNf : NM.take (hi - lo) = NM := List.take_of_length_le (by rw [hNl'.out]; exact Nat.le_refl _)
          first | rw [hNf] at hown | rw [← List.map_take, hNf] at hown
          have K6 := K5.below hB
          have hc6 := capN_none (capN_own hown)
          have hRS : RS 9 wx A6 (hi - lo) NM := R1.of_own hown (by omega)
          rw [← hNl'.out] at hRS
          clear hown hB hNa hmid K5 hNf
          go_wp2_with (at_builtin; refine wpList_app (w := wx) rfl (.tmp 47) (.tmp 49) 39 rfl Tryz.underlying39 info_names rfl (by omega) (by omega) K6.o rfl rfl (by first | rfl | (simp; done)) rfl (by simp [Value.oneCell']) (by omega) K6.bel.size ?_; intro v8 w8 hown8 hg8)
          have K8 := K6.app (x := ⟨A6, c6, NM⟩) hRS hc6 (by rw [show nxE ⟨A6, c6, NM⟩ = [.slice A6 (hi - lo) c6] by unfold nxE; rw [hNl'.out]]; exact hown8) hg8
          clear hown8 hg8 hRS K6
          go_wp2
          go_roundw
          case rel => exact ⟨k + 1, _, by omega, by go_num, by simp [hLk], K8, Lib.hid (by rw [List.map_append]; exact hG2.out)⟩
          case measure => simp [intOf]; omega
    · obtain rfl : k = GV.length := by omega
      have hfin := Lib.hid (show L.map Nx.ids = OV by rw [hG.out, hV.out, List.take_of_length_le (Nat.le_refl _)])
      have hcpL := Lib.hid (capN_own K.o)
      have hRN := Lib.hid (show RNx wr A5 L.length L from K.fin (by omega))
      have hBf := below_next hB3 K.bel
      clear K hG
      rw [← hLk] at *
      go_wp2
      go_ret2
      exact ⟨_, rfl, A5, c5, L, rfl, hRN.out, hcpL.out, hfin.out, hBf⟩
end Go.Proofs.YtjafcnblgeibpaaGreatDoor
