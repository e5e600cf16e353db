/- tumbref1.SwimOffOf; equality of rows of names. -/
import Derived.Test.YtjafcnblgeibpaaGreatDoorSwimC
namespace Go.Proofs.YtjafcnblgeibpaaGreatDoor
open Go.RowKit Go.Shelf Go.Lib Go.Sort
set_option linter.unusedVariables false

theorem zone_c (f : Fl) (hf : FlOk f) (i : Nat) (hi : i ≤ 1000) (w : World) : Calls Tryz.prog 97 #[f.val, .int .i64 i] w fun e w' => e = .returned (.int .i64 (cls f i)) ∧ Below w.heap.size w w' := by
  have hC := Lib.hid (show cls f i = if (i : Int) < f.sz * f.mn then (i : Int) / f.sz + 1 else if (i : Int) < f.sz * f.mn + f.rs then 0 else -1 from rfl)
  generalize cls f i = C at *
  obtain ⟨sz, mn, rs⟩ := f
  obtain ⟨⟨p0, p1⟩, ⟨p2, p3⟩, p4, p5⟩ := hf
  dsimp only [Fl.val] at *
  have hm1 : sz * mn ≤ 10 * 5 := Int.mul_le_mul p1 p3 (by omega) (by omega)
  have hm0 : 0 ≤ sz * mn := Int.mul_nonneg (by omega) (by omega)
  have e1 : IntKind.i64.wrap (sz * mn) = sz * mn := IntWalk.i64_in _ (by generalize sz * mn = q at *; omega)
  have e2 : IntKind.i64.wrap (sz * mn + rs) = sz * mn + rs := IntWalk.i64_in _ (by generalize sz * mn = q at *; omega)
  have q0 : 0 ≤ (i : Int) / sz := Int.ediv_nonneg (by omega) (by omega)
  have q1 : (i : Int) / sz ≤ i := Int.ediv_le_self _ (by omega)
  have e3 : (i : Int).tdiv sz = (i : Int) / sz := Int.tdiv_eq_ediv_of_nonneg (by omega)
  have e4 : IntKind.i64.wrap ((i : Int) / sz) = (i : Int) / sz := IntWalk.i64_in _ (by omega)
  have e5 : IntKind.i64.wrap ((i : Int) / sz + 1) = (i : Int) / sz + 1 := IntWalk.i64_in _ (by omega)
  have e6 : (sz == 0) = false := beq_eq_false_iff_ne.2 (by omega)
  have hz := (blk_facts (heap_alloc_new w (.cells #[.int .i64 sz, .int .i64 mn, .int .i64 rs] 27))).1
  have hB := below_new w (.cells #[.int .i64 sz, .int .i64 mn, .int .i64 rs] 27)
  have z0 := hz 0
  have z1 := hz 1
  have z2 := hz 2
  clear hz
  by_cases c0 : (i : Int) < sz * mn
  · obtain rfl : C = (i : Int) / sz + 1 := by rw [hC.out, if_pos c0]
    clear hC
    go_enter Tryz.func97, Tryz.ntmps97
    go_wp2
    go_ret
    exact ⟨rfl, hB⟩
  · by_cases c1 : (i : Int) < sz * mn + rs
    · obtain rfl : C = 0 := by rw [hC.out, if_neg c0, if_pos c1]
      clear hC
      go_enter Tryz.func97, Tryz.ntmps97
      go_wp2
      go_ret
      exact ⟨rfl, hB⟩
    · obtain rfl : C = -1 := by rw [hC.out, if_neg c0, if_neg c1]
      clear hC
      go_enter Tryz.func97, Tryz.ntmps97
      go_wp2
      go_ret
      exact ⟨rfl, hB⟩
theorem cls_mid {f : Fl} (hf : FlOk f) {i j k : Nat} (h1 : i ≤ j) (h2 : j ≤ k) (h : cls f k = cls f i) : cls f j = cls f i := by
  obtain ⟨⟨p0, _⟩, _, p4, _⟩ := hf
  unfold cls at *
  have q1 : (i : Int) / f.sz ≤ (j : Int) / f.sz := Int.ediv_le_ediv (by omega) (by omega)
  have q2 : (j : Int) / f.sz ≤ (k : Int) / f.sz := Int.ediv_le_ediv (by omega) (by omega)
  have q0 : 0 ≤ (i : Int) / f.sz := Int.ediv_nonneg (by omega) (by omega)
  generalize f.sz * f.mn = m at *
  generalize (i : Int) / f.sz = a at *
  generalize (j : Int) / f.sz = b at *
  generalize (k : Int) / f.sz = c at *
  split at h <;> split at h <;> (try split at h) <;> (try split at h) <;> split <;> (try split) <;> (try split) <;> (try split) <;> omega
/-- whether some of a run are in another final than its first one -/
def apartN (f : Fl) (i : Nat) : Nat → Bool
  | 0 => false
  | m + 1 => apartN f i m || decide (cls f (i + m) ≠ cls f i)
theorem apartN_same {f : Fl} {i : Nat} : ∀ m : Nat, (∀ j, j < m → cls f (i + j) = cls f i) → apartN f i m = false
  | 0, _ => rfl
  | m + 1, h => by
    unfold apartN
    rw [apartN_same m (fun j hj => h j (by omega)), h m (by omega)]
    simp
theorem apartN_end {f : Fl} (hf : FlOk f) {i e : Nat} (h : i < e) : apartN f i (e - i) = decide (cls f i ≠ cls f (e - 1)) := by
  by_cases hc : cls f (e - 1) = cls f i
  · rw [apartN_same _ (fun j hj => cls_mid hf (by omega) (show i + j ≤ e - 1 by omega) hc), hc]
    simp
  · obtain ⟨m, rfl⟩ : ∃ m, e = i + m + 1 := ⟨e - i - 1, by omega⟩
    rw [show i + m + 1 - i = m + 1 by omega]
    rw [show i + m + 1 - 1 = i + m by omega] at hc ⊢
    unfold apartN
    have hc' : ¬ cls f i = cls f (i + m) := fun h => hc h.symm
    simp [hc, hc']
theorem apartN_step (f : Fl) (i q : Nat) (h : i ≤ q) : apartN f i (q + 1 - i) = (apartN f i (q - i) || decide (cls f q ≠ cls f i)) := by
  rw [show q + 1 - i = (q - i) + 1 by omega]
  show (apartN f i (q - i) || decide (cls f (i + (q - i)) ≠ cls f i)) = _
  rw [show i + (q - i) = q by omega]
/-- the names from i on, before q -/
def nmTo (L : List Sd) (i q : Nat) : List ByteArray := nmsOf L (i, q)
theorem nmTo_step {L : List Sd} {i q : Nat} {x : Sd} (hx : L[q]? = some x) (h : i ≤ q) : nmTo L i (q + 1) = nmTo L i q ++ [x.who] := by
  unfold nmTo nmsOf
  dsimp only
  rw [show q + 1 - i = (q - i) + 1 by omega, List.take_add_one, List.getElem?_drop, show i + (q - i) = q by omega, hx, List.map_append]
  rfl
theorem nmTo_len {L : List Sd} {i q : Nat} (h : i ≤ q) (hq : q ≤ L.length) : (nmTo L i q).length = q - i := by
  unfold nmTo nmsOf
  dsimp only
  rw [List.length_map, List.length_take, List.length_drop]
  omega
set_option maxHeartbeats 3200000 in
set_option maxRecDepth 100000 in
theorem swimOffOf_c (f : Fl) (hf : FlOk f) (A : Option Addr) (n c : Nat) (l : List Sd) (w : World) (h : RSd w A n l) (hn : n ≤ 19) (h0 : seedErr l = 0) :
    Calls Tryz.prog 24 #[f.val, .slice A n c] w fun e w' => ∃ u, e = .returned u ∧ RetOff w (offV f (finL l)) u w' := by
  obtain ⟨_, hso⟩ := seedErr_ok h0
  have hFi := Lib.hid (fun W h => finishedRef_c A n c l W h hn (fun x hx => (hso x hx).2))
  have hZo := Lib.hid (fun i hi W => zone_c f hf i hi W)
  have hGa := Lib.hid (fun i (h : i < (finL l).length) => grpL_at (f := f) h)
  have hGe := Lib.hid (fun i (h : (finL l).length ≤ i) => grpL_end (f := f) h)
  have hV := Lib.hid (show offV f (finL l) = (grpL f (finL l) 0).map (nmsOf (finL l)) from rfl)
  have hAe := Lib.hid (fun i e (h : i < e) => apartN_end hf (i := i) (e := e) h)
  have hAs := Lib.hid (apartN_step f)
  have hFn := Lib.hid (finL_len l)
  have hln := Lib.hid h.len
  have hF0 : FinB w.heap.size f (w.alloc (.cells f.cells 27)) := heap_alloc_new w _
  have hB0 := below_new w (.cells f.cells 27)
  have hFk := Lib.hid (fun a v (h : FinB w.heap.size f a) B => FinB.keep a v h B)
  have hFa := Lib.hid (fun v (h : FinB w.heap.size f v) => h.at_)
  have hR := Lib.hid (fun W B => h.below (w' := W) B)
  have hA0 := Lib.hid (fun i => show apartN f i 0 = false from rfl)
  clear h h0 hso
  generalize offV f (finL l) = OV at *
  generalize grpL f (finL l) = GL at *
  generalize finL l = F at *
  generalize cls f = CL at *
  generalize apartN f = AP at *
  obtain ⟨sz, mn, rs⟩ := f
  dsimp only [Fl.val, Fl.cells] at *
  generalize FinB w.heap.size ⟨sz, mn, rs⟩ = FB at *
  go_enter Tryz.func24, Tryz.ntmps24
  go_wp2_with fail
  refine (hFi.out _ (hR.out _ hB0)).mono ?_; rintro e w3 ⟨A2, n2, c2, rfl, ho2, hn2, B2⟩
  have hB3 := below_next hB0 B2
  have hF3 := hFk.out _ _ hF0 B2
  have hl2 := own_len sdE_len (by decide) ho2
  have hr3 : RSd w3 A2 n2 F := RN.of_own sdE_len ho2 hl2 (by omega)
  have hl2' := Lib.hid hl2
  have K0 : NsK w3 (.slice none 0 0) [] w3 := NsK.start (Below.refl _ _)
  have hRF := Lib.hid (fun W (B : Below w3.heap.size w3 W) => hr3.below B)
  have hFK := Lib.hid (fun W (B : Below w3.heap.size w3 W) => hFk.out _ _ hF3 B)
  have hfd := Lib.hid (fun W (h : FB W) => show FB W.drew from hFk.out _ _ h (below_drewN (Below.refl _ _) 1))
  have hn19 : n2 ≤ 19 := by omega
  clear hF0 hB0 B2 hFi ho2 hl2 hr3 hF3
  go_wp2_with fail
  go_loopw [5, 7, 8, 9, 10] (fun u iv _ _ _ wr => ∃ (i : Nat) (L : List Nx), i ≤ n2 ∧ iv = .int .i64 i ∧ L.length ≤ i ∧ NsK w3 u L wr ∧ Hid (L.map Nx.ids ++ (GL i).map (nmsOf F) = OV)) (fun _ iv _ _ _ _ => n2 - (intOf iv).toNat)
  case atStart => exact ⟨0, [], Nat.zero_le _, rfl, Nat.le_refl _, K0, Lib.hid (by rw [hV.out]; rfl)⟩
  case round =>
    clear K0
    rename World => wr
    obtain ⟨i, L, hi, rfl, hLi, K, hG⟩ := hrel
    obtain ⟨A5, c5, rfl⟩ := own_shape K.o
    by_cases hlt : i < n2
    · obtain ⟨b, off, x, rfl, hbl, hx, c0, c1⟩ := RSd_at2 (hRF.out _ K.bel) hlt
      have hx' := Lib.hid hx
      have hE := Lib.hid (show runE F i = i + runN x.time (F.drop i) by rw [runE_at hx, runN_same hx rfl])
      have hil : i < F.length := by rw [hl2'.out]; exact hlt
      have hgt := Lib.hid (runE_gt F i)
      have hEl := Lib.hid (runE_le hil)
      have hG2 := Lib.hid (show L.map Nx.ids ++ ((if CL i ≠ CL (runE F i - 1) then [(i, runE F i)] else []) ++ GL (runE F i)).map (nmsOf F) = OV by rw [← hG.out, hGa.out i hil])
      have hF5 := hFK.out _ K.bel
      have hR5 := Lib.hid (fun W (B : Below wr.heap.size wr W) => hRF.out W (below_next K.bel B))
      obtain ⟨who, t⟩ := x
      dsimp only at *
      clear hx hG c0 c1 hil
      go_upto_block 2 with (fail)
      go_cut [8, 9, 10] (fun kv u2 pv wx => kv = .int .i64 (runE F i) ∧ pv = .bool (AP i (runE F i - i)) ∧ wx.ownsRow wr.heap.size 9 1 u2 (runE F i - i) ((nmTo F i (runE F i)).map Value.string) ∧ Below wr.heap.size wr wx)
      case first =>
        go_wp2_with fail
        go_loopw [8, 9, 10] (fun kv u2 pv wx => ∃ q : Nat, i ≤ q ∧ q ≤ n2 ∧ kv = .int .i64 q ∧ pv = .bool (AP i (q - i)) ∧ wx.ownsRow wr.heap.size 9 1 u2 (q - i) ((nmTo F i q).map Value.string) ∧ Below wr.heap.size wr wx ∧ Hid (runE F i = q + runN t (F.drop q))) (fun kv _ _ _ => n2 - (intOf kv).toNat)
        case atStart => exact ⟨i, Nat.le_refl _, by omega, rfl, by rw [Nat.sub_self, hA0.out], by rw [Nat.sub_self, show nmTo F i i = [] by unfold nmTo nmsOf; simp]; exact World.ownsRow_nil _ _ _ _, Below.refl _ _, hE⟩
        case round =>
          clear hE
          rename World => wx
          obtain ⟨q, hiq, hq, rfl, rfl, hown, hB, hE⟩ := hrel
          obtain ⟨A6, c6, rfl⟩ := own_shape hown
          obtain ⟨b1, off1, x1, hA1, _, hx1, _, c1⟩ := RSd_at2 (hR5.out _ hB) hlt
          injection hA1 with hA1
          injection hA1 with e1 e2
          subst e1 e2
          obtain rfl : (⟨who, t⟩ : Sd) = x1 := by rw [hx'.out] at hx1; exact Option.some.inj hx1
          clear hx1
          dsimp only at c1
          by_cases hqn : q < n2
          · have hqi : (q : Int) < n2 := by omega
            obtain ⟨b2, off2, y, hA2, _, hy, d0, d1⟩ := RSd_at2 (hR5.out _ hB) hqn
            injection hA2 with hA2
            injection hA2 with e1 e2
            subst e1 e2
            have hN2 := Lib.hid (nmTo_step hy hiq)
            obtain ⟨who2, t2⟩ := y
            dsimp only at d0 d1
            by_cases hyt : t2 = t
            · have hE2 := Lib.hid (hE.out.trans (runN_same hy hyt))
              subst hyt
              have hAq := Lib.hid (hAs.out i q hiq)
              have hso : q + 1 - i = (q - i) + 1 := by omega
              have hz8 := hB.size
              dsimp only at hN2
              clear hy hE
              generalize AP i (q - i) = fl at *
              go_wp2
              go_quiet (fail)
              have ho6 := own_below hown (below_drewN (Below.refl wx.heap.size wx) nq)
              have hB6 := below_drewN hB nq
              clear hown hB
              go_wp2_with (at_builtin; refine wpList_app (w := wx.drewN nq) rfl (.tmp 37) (.tmp 43) 49 rfl Tryz.underlying49 info_str rfl (by omega) (by omega) ho6 rfl rfl (by first | rfl | (simp; done)) rfl (by simp [Value.oneCell']) (by omega) hB6.size ?_; intro v8 w8 hown8 hg8)
              have hB8 := below_own hB6 ho6 hg8 hB6.size (Nat.le_refl _)
              have ho8 : w8.ownsRow wr.heap.size 9 1 v8 (q + 1 - i) ((nmTo F i (q + 1)).map Value.string) := by rw [hN2.out, List.map_append, hso]; exact hown8
              clear hown8 hg8 ho6 hB6
              cases fl
              · have hF8 := hFk.out _ _ hF5 hB8
                obtain ⟨y0, y1, y2⟩ := hFa.out _ hF8
                have hFd := Lib.hid (hfd.out _ hF8)
                have hod := Lib.hid ho8.drew
                have hBd := Lib.hid (below_drewN hB8 1)
                go_wp2_with fail
                go_region_held3 (fun w' => w'.cell? ⟨w.heap.size, 0, none⟩ = some (.int .i64 sz) ∧ w'.cell? ⟨w.heap.size, 1, none⟩ = some (.int .i64 mn) ∧ w'.cell? ⟨w.heap.size, 2, none⟩ = some (.int .i64 rs))
                  (first | go_keep | with_reducible exact ⟨y100, y101, y102⟩ | with_reducible exact ⟨y90, y91, y92⟩)
                  (first
                    | (go_at_call 97; have hF9' := hF9; refine (hZo.out i (by omega) _).mono ?_; rintro e w10 ⟨rfl, B10⟩; have ho10 := own_below ho9 B10; have hB10 := below_next hB9 B10; obtain ⟨y100, y101, y102⟩ := hFa.out _ (hFk.out _ _ hF9 B10))
                    | (go_at_call 97; refine (hZo.out q (by omega) _).mono ?_; rintro e w9 ⟨rfl, B9⟩; have ho9 := own_below hod.out B9; have hF9 := hFk.out _ _ hFd.out B9; have hB9 := below_next hBd.out B9; obtain ⟨y90, y91, y92⟩ := hFa.out _ hF9))
                have hAq' : AP i (q + 1 - i) = (CL q != CL i) := by rw [hAq.out, Bool.false_or]; by_cases h9 : CL q = CL i <;> simp [h9]
                have hAq2 := Lib.hid hAq'
                clear hAq hAq' y0 y1 y2 y90 y91 y92 y100 y101 y102 hF8 hFd hod hBd ho8 hB8 ho9 hF9 hB9 B9 B10
                go_wp2
                go_roundw
                case rel => exact ⟨q + 1, by omega, by omega, by go_num, by rw [hAq2.out], ho10, hB10, hE2⟩
                case measure => simp [intOf]; omega
              · go_wp2
                go_quiet (fail)
                go_wp2
                go_roundw
                case rel => exact ⟨q + 1, by omega, by omega, by go_num, by rw [hAq.out, Bool.true_or], own_below ho8 (below_drewN (Below.refl _ _) _), below_drewN hB8 _, hE2⟩
                case measure => simp [intOf]; omega
            · have hE2 := Lib.hid (hE.out.trans (runN_stop hy hyt))
              have hne : (t2 == t) = false := beq_eq_false_iff_ne.2 hyt
              clear hy hE hyt hN2
              go_wp2
              go_quiet (fail)
              go_wp2
              go_meet
              case rel => exact ⟨by rw [hE2.out], by rw [hE2.out], by rw [hE2.out]; exact own_below hown (below_drewN (Below.refl _ _) _), below_drewN hB _⟩
          · have hE2 := Lib.hid (hE.out.trans (runN_end (t := t) (by rw [hl2'.out]; omega)))
            have hqi : ¬ (q : Int) < n2 := by omega
            clear hE
            go_wp2
            go_quiet (fail)
            go_wp2
            go_meet
            case rel => exact ⟨by rw [hE2.out], by rw [hE2.out], by rw [hE2.out]; exact own_below hown (below_drewN (Below.refl _ _) _), below_drewN hB _⟩
      case rest =>
        obtain ⟨rfl, rfl, hown, hB⟩ := hcut
        rename World => wx
        have hgt' := hgt.out
        have hle := hEl.out
        rw [hl2'.out] at hle
        have hcl := Lib.hid (hAe.out i (runE F i) hgt')
        have hNl := Lib.hid (nmTo_len (L := F) (i := i) (q := runE F i) (by omega) (by rw [hl2'.out]; exact hle))
        have hNn := Lib.hid (show nmTo F i (runE F i) = nmsOf F (i, runE F i) from rfl)
        have K6 := K.below hB
        obtain ⟨A6, c6, rfl⟩ := own_shape hown
        have hc6 := capN_none (capN_own hown)
        have hRS : RS 9 wx A6 (runE F i - i) (nmTo F i (runE F i)) := R1.of_own hown (by omega)
        clear hE hEl hgt hx' hF5 hR5 K hown hB
        generalize nmTo F i (runE F i) = NM at *
        generalize runE F i = q at *
        rw [← hNl.out] at hRS
        by_cases hc : CL i = CL (q - 1)
        · have hG3 := Lib.hid (show L.map Nx.ids ++ (GL q).map (nmsOf F) = OV by have h := hG2.out; rw [if_neg (by simpa using hc), List.nil_append] at h; exact h)
          have hap : AP i (q - i) = false := by rw [hcl.out]; simp [hc]
          clear hG2 hc hcl
          rw [hap]
          go_wp2
          go_roundw
          case rel => exact ⟨q, L, hle, rfl, by omega, K6, hG3⟩
          case measure => simp [intOf]; omega
        · have hG3 := Lib.hid (show (L ++ [(⟨A6, c6, NM⟩ : Nx)]).map Nx.ids ++ (GL q).map (nmsOf F) = OV by
            have h := hG2.out
            rw [if_pos (by simpa using hc), List.map_append] at h
            rw [List.map_append, List.append_assoc, hNn.out]
            exact h)
          have hap : AP i (q - i) = true := by rw [hcl.out]; simp [hc]
          clear hG2 hc hcl
          rw [hap]
          go_wp2_with (at_builtin; refine wpList_app (w := wx) rfl (.tmp 56) (.tmp 58) 39 rfl Tryz.underlying39 info_names rfl (by omega) (by omega) K6.o rfl rfl (by first | rfl | (simp; done)) rfl (by simp [Value.oneCell']) (by omega) K6.bel.size ?_; intro v8 w8 hown8 hg8)
          have K8 := K6.app (x := ⟨A6, c6, NM⟩) hRS hc6 (by rw [show nxE ⟨A6, c6, NM⟩ = [.slice A6 (q - i) c6] by unfold nxE; rw [hNl.out]]; exact hown8) hg8
          clear hown8 hg8 hRS K6
          go_wp2
          go_roundw
          case rel => exact ⟨q, _, hle, rfl, by simp; omega, K8, hG3⟩
          case measure => simp [intOf]; omega
    · obtain rfl : i = n2 := by omega
      have hfin := Lib.hid (show L.map Nx.ids = OV by rw [← hG.out, hGe.out _ (by rw [hl2'.out]; exact Nat.le_refl _)]; simp)
      have hcpL := Lib.hid (capN_own K.o)
      have hRN := Lib.hid (show RNx wr A5 L.length L from K.fin (by omega))
      have hBf := below_next hB3 K.bel
      clear K hG
      go_wp2
      go_ret
      exact ⟨_, rfl, A5, c5, L, rfl, hRN.out, hcpL.out, hfin.out, hBf⟩
end Go.Proofs.YtjafcnblgeibpaaGreatDoor
