/- The reference's WheresOf: swims sorted by their spots, then told as wheres. Printed by wip/gen19.py. -/
import Derived.Test.YtmnidnmdjkfhnaaGreatDoorWhereR
namespace Go.Proofs.YtmnidnmdjkfhnaaGreatDoor
open Go.RowKit Go.Sort
set_option linter.unusedVariables false

theorem swS_flat {p : Sw → Prop} (l : List { x : Sw // p x }) : l.flatMap (fun x => swE x.1) = (l.map Subtype.val).flatMap swE := by
  induction l with
  | nil => rfl
  | cons x r ih => rw [List.flatMap_cons, List.map_cons, List.flatMap_cons, ih]
theorem swSort_len (r : Race) (t : Int) (l : List Sw) : (swSort r t l).length = l.length := insL_len _ _
/-- swims in a row of the call's own, sorted by their spots -/
theorem swSorted_c (r : Race) (t : Int) (l : List Sw) (w : World) (base gb n c b3 b5 : Nat) (hown : w.ownsRow base 34 2 (.slice (some ⟨gb, 0, none⟩) n c) n (l.flatMap swE)) (hp : 0 < n) (hn : n ≤ 19) (h3 : w.heap[b3]? = some (.cells r.cells 27 (0, 0))) (h5 : w.heap[b5]? = some (.cells #[.int .i64 t] 3 (0, 0))) (hr : ∀ x ∈ l, RI 3 w x.A x.n x.sp) (hw : ∀ x ∈ l, wholeErr r x.sp = 0) (ht0 : 0 ≤ t) (ht1 : t ≤ 360000) :
    Calls Tryz.prog 64 #[.slice (some ⟨gb, 0, none⟩) n c, .func (.func 65) #[] #[.pointer (some ⟨b3, 0, none⟩), .pointer (some ⟨b5, 0, none⟩)]] w fun e w' => e = .returned (.tuple #[]) ∧ w'.ownsRow base 34 2 (.slice (some ⟨gb, 0, none⟩) n c) n ((swSort r t l).flatMap swE) ∧ (∀ x ∈ swSort r t l, x ∈ l) ∧ w.grownBy w' (some gb) := by
  obtain ⟨ls, hls⟩ := sub_list (p := fun x => (RI 3 w x.A x.n x.sp ∧ wholeErr r x.sp = 0) ∧ x ∈ l) l (fun x hx => ⟨⟨hr x hx, hw x hx⟩, hx⟩)
  have hlen := own_len swE_len (by decide) hown
  have hl0 : 0 < ls.length := by have : (ls.map Subtype.val).length = n := by rw [hls, hlen]
                                 rw [List.length_map] at this; omega
  have hinh : Inhabited { x : Sw // (RI 3 w x.A x.n x.sp ∧ wholeErr r x.sp = 0) ∧ x ∈ l } := ⟨ls[0]⟩
  have e1 := insL_map (ltOf fun x y : { x : Sw // (RI 3 w x.A x.n x.sp ∧ wholeErr r x.sp = 0) ∧ x ∈ l } => swCf r t x.1 y.1) (ltOf (swCf r t)) Subtype.val (fun _ _ => rfl) ls
  rw [hls] at e1
  have hown' : w.ownsRow base 34 2 (.slice (some ⟨gb, 0, none⟩) n c) n (ls.flatMap fun x => swE x.1) := by rw [swS_flat, hls]; exact hown
  have eg : ∀ args w, (callFunc 65 args).run Tryz.prog w = .ok (.enter 65 args) w := enters_of Tryz.func65 (by kernel_rfl) rfl
  refine (swSort_c (fun x : { x : Sw // (RI 3 w x.A x.n x.sp ∧ wholeErr r x.sp = 0) ∧ x ∈ l } => swE x.1) (fun _ => rfl) (fun x v hv => by simp [swE] at hv; rcases hv with rfl | rfl <;> rfl) (fun x y => swCf r t x.1 y.1) _ _ eg base gb n c ls w (fun m os dk hdk x y => ?_) hown' hn).mono ?_
  · obtain ⟨_, hg⟩ := own_sortedK (fun x : { x : Sw // (RI 3 w x.A x.n x.sp ∧ wholeErr r x.sp = 0) ∧ x ∈ l } => swE x.1) 2 (fun _ => rfl) (by decide) hown' (l' := dk.toList) (by rw [Array.length_toList]; exact hdk) m os
    rw [Array.toArray_toList] at hg
    generalize sortWorldK (fun x : { x : Sw // (RI 3 w x.A x.n x.sp ∧ wholeErr r x.sp = 0) ∧ x ∈ l } => swE x.1) 2 w gb 0 m dk os = W at *
    have hK : Keep 34 w W := keep_of_app hown' hg
    exact (swCl_c r t x.1 y.1 W b3 b5 (hK _ _ _ _ (by decide) h3) (hK _ _ _ _ (by decide) h5) (x.2.1.1.keep (T := 34) (by decide) hK) (y.2.1.1.keep (T := 34) (by decide) hK) x.2.1.2 y.2.1.2 ht0 ht1).mono fun _ _ ⟨he, hB, hD⟩ => ⟨he, grow_of hB hD⟩
  · rintro e w' ⟨rfl, ho, hg⟩
    rw [swS_flat, ← e1] at ho
    refine ⟨rfl, ho, fun x hx => ?_, hg⟩
    have hx' : x ∈ insL (ltOf (swCf r t)) l := hx
    rw [e1] at hx'
    obtain ⟨y, _, rfl⟩ := List.mem_map.1 hx'
    exact y.2.2
set_option maxHeartbeats 3200000 in
set_option maxRecDepth 100000 in
theorem wheresOf_c (r : Race) (A : Option Addr) (n c : Nat) (l : List Sw) (t : Int) (w : World) (h : RSw w A n l) (hw : ∀ x ∈ l, wholeErr r x.sp = 0) (ht0 : 0 ≤ t) (ht1 : t ≤ 360000) (hn : n ≤ 19) :
    Calls Tryz.prog 22 #[r.val, .slice A n c, .int .i64 t] w fun e w' => ∃ A' c', e = .returned (.slice A' n c') ∧ RWh w' A' n (whL r t l) ∧ Below w.heap.size w w' := by
  have hF := Lib.hid (fun W (x : Sw) (hx : x ∈ l) (h : RI 3 W x.A x.n x.sp) => show Calls Tryz.prog 68 #[r.val, .slice x.A x.n x.c, .int .i64 t] W fun e w' => e = .returned (.agg #[.int .i64 (atWh r t x).num, .int .i64 (atWh r t x).den]) ∧ Below W.heap.size W w' from farOf_c r x.A x.n x.c x.sp t W h (hw x hx) ht0 ht1)
  have hOk := Lib.hid (fun x (hx : x ∈ l) => show whOk ⟨x.who, (atWh r t x).num, (atWh r t x).den⟩ from atWh_ok (r := r) (t := t) (x := x) (hw x hx) ht0 ht1)
  have hEt := Lib.hid (fun x => show atWh r t x = ⟨x.who, (atWh r t x).num, (atWh r t x).den⟩ from rfl)
  have hAt := Lib.hid (fun (L : List Sw) k x (hx : L[k]? = some x) => atWh_at (r := r) (t := t) hx)
  have hWL : Hid (whL r t l = (swSort r t l).map (atWh r t)) := Lib.hid (wheres_same hw ht0 ht1)
  have hSo := Lib.hid (fun W gb c' b3 b5 (ho : W.ownsRow (w.heap.size + 2) 34 2 (.slice (some ⟨gb, 0, none⟩) n c') n (l.flatMap swE)) h0 h3 h5 hr => swSorted_c r t l W (w.heap.size + 2) gb n c' b3 b5 ho h0 hn h3 h5 hr hw ht0 ht1)
  have hL0 := Lib.hid (fun (h0 : l = []) => show swSort r t l = [] by rw [h0]; exact insL_nil _)
  have hLl := Lib.hid (show (swSort r t l).length = n by rw [swSort_len, h.len])
  generalize whL r t l = WL at *
  generalize atWh r t = AW at *
  generalize swSort r t l = SL at *
  clear hw
  obtain ⟨key, metres, stroke, course, legs, sex, young, old⟩ := r
  dsimp only [Race.val, Race.cells] at *
  have hb0 := blk_alloc (heap_alloc_new w (.cells #[.string key, .int .i64 metres, .int .i64 stroke, .int .i64 course, .int .i64 legs, .int .i64 sex, .int .i64 young, .int .i64 old] 27)) (.cells #[.int .i64 t] 3)
  have ht0' := heap_alloc_new (w.alloc (.cells #[.string key, .int .i64 metres, .int .i64 stroke, .int .i64 course, .int .i64 legs, .int .i64 sex, .int .i64 young, .int .i64 old] 27)) (.cells #[.int .i64 t] 3)
  have hB0 := (below_new w (.cells #[.string key, .int .i64 metres, .int .i64 stroke, .int .i64 course, .int .i64 legs, .int .i64 sex, .int .i64 young, .int .i64 old] 27)).trans ((below_new (w.alloc (.cells #[.string key, .int .i64 metres, .int .i64 stroke, .int .i64 course, .int .i64 legs, .int .i64 sex, .int .i64 young, .int .i64 old] 27)) (.cells #[.int .i64 t] 3)).mono (by simp))
  have hz0 : ((w.alloc (.cells #[.string key, .int .i64 metres, .int .i64 stroke, .int .i64 course, .int .i64 legs, .int .i64 sex, .int .i64 young, .int .i64 old] 27)).alloc (.cells #[.int .i64 t] 3)).heap.size = w.heap.size + 2 := by simp
  rw [alloc_size] at ht0'
  have h1 := (h.alloc (.cells #[.string key, .int .i64 metres, .int .i64 stroke, .int .i64 course, .int .i64 legs, .int .i64 sex, .int .i64 young, .int .i64 old] 27)).alloc (.cells #[.int .i64 t] 3)
  go_enter Tryz.func22, Tryz.ntmps22
  go_wp2_with fail
  generalize (w.alloc (.cells #[.string key, .int .i64 metres, .int .i64 stroke, .int .i64 course, .int .i64 legs, .int .i64 sex, .int .i64 young, .int .i64 old] 27)).alloc (.cells #[.int .i64 t] 3) = w1 at *
  refine (swClone_c A n c l w1 h1.1 (by omega)).mono ?_; rintro e w2 ⟨A2, c2, rfl, hown2, B2⟩
  rw [hz0] at hown2
  have hB2 := below_next hB0 B2
  have hb2 := blk_below hb0 B2
  have ht2 := blk_below ht0' B2
  have hl := Lib.hid h.len
  clear hb0 ht0' hB0
  by_cases h0 : n = 0
  · subst h0
    have e0 := hL0.out (List.eq_nil_of_length_eq_zero hl.out)
    rw [e0] at hWL
    go_wp2_with fail
    refine (swSort0_c _ _ _ _).mono ?_; rintro e w8 ⟨rfl, rfl⟩
    go_wp2
    refine wp_loop_rounds 1 ?_
    rw [rounds_succ]
    go_wp2
    go_ret
    exact ⟨none, 0, rfl, by rw [hWL.out]; exact RN.nil_ _ _ _ _ _, hB2⟩
  · rcases hown2.2 with ⟨_, h9⟩ | ⟨gb, cap, cur, hv9, _, hgb, _, _, _, _⟩
    · omega
    · injection hv9 with hA hn' hc'
      subst hA hc'
      have hri2 := fun x hx => (h.below hB2).2 x hx
      go_wp2_with fail
      refine (hSo.out w2 gb _ w.heap.size (w.heap.size + 1) hown2 (by omega) hb2 ht2 hri2).mono ?_; rintro e w3 ⟨rfl, hown3, hm3, g3⟩
      have hB3 := below_own hB2 hown2 g3 hB2.size (by omega)
      have hK3 := keep_of_app hown2 g3
      have hb3 := hK3 _ _ _ _ (by decide) hb2
      have ht3 := hK3 _ _ _ _ (by decide) ht2
      have hS3 : RSw w3 (some ⟨gb, 0, none⟩) n SL := RSw.of_own hown3 hLl.out (by omega) (fun x hx => (hri2 x (hm3 x hx)).keep (T := 34) (by decide) hK3)
      have hm3' := Lib.hid hm3
      have lz3 := lt_of_heap ht3
      clear hb2 ht2 hown2 hown3 hSo hri2 hm3 B2 hB2 h1 hgb hz0
      go_wp2_with fail
      go_loopw [8, 18] (fun out i wr => ∃ (j : Nat) (acc : List WhB), j ≤ n ∧ i = .int .i64 j ∧ Hid (acc.length = j) ∧ wr.ownsRow w3.heap.size 67 3 out j (acc.flatMap whB) ∧ Below w3.heap.size w3 wr ∧ Hid (acc.map Subtype.val ++ (SL.drop j).map AW = SL.map AW)) (fun _ i _ => n - (intOf i).toNat)
      case atStart => exact ⟨0, [], Nat.zero_le _, rfl, Lib.hid rfl, World.ownsRow_nil _ _ _ _, Below.refl _ _, Lib.hid rfl⟩
      case round =>
        obtain ⟨j, acc, hj, rfl, hla, hown, hBr, hG⟩ := hrel
        have hB := below_next hB3 hBr
        have hbr := blk_below hb3 hBr
        have htr := blk_below ht3 hBr
        by_cases hlt : j < n
        · obtain ⟨b, off, x, hAe, hbl, hx, c0, c1, hI⟩ := (hS3.below hBr).at2 hlt
          injection hAe with hAe
          injection hAe with e1 e2 _
          subst e1 e2
          rw [Nat.zero_add] at c0 c1
          have hxm := hm3'.out x (List.mem_of_getElem? hx)
          have hT := Lib.hid (hAt.out SL j x hx)
          have hF1 := Lib.hid (fun W h => hF.out W x hxm h)
          have hO := Lib.hid (hOk.out x hxm)
          have hE := Lib.hid (hEt.out x)
          generalize AW x = ax at *
          obtain ⟨who, xA, xn, xc, xs⟩ := x
          obtain ⟨who', N, D⟩ := ax
          dsimp only at *
          obtain ⟨rfl, _, _⟩ : who' = who ∧ N = N ∧ D = D := by have := hE.out; injection this with e1; exact ⟨e1, rfl, rfl⟩
          clear hx hxm hE
          have hz := hBr.size
          have hneS := hown.lt
          have hown5 := hown.alloc (.cells #[.string who', .slice xA xn xc] 34)
          have hB5 := hBr.alloc hz (.cells #[.string who', .slice xA xn xc] 34)
          have hx5 := heap_alloc_new wr (.cells #[.string who', .slice xA xn xc] 34)
          have hbr5 := blk_alloc hbr (.cells #[.string who', .slice xA xn xc] 34)
          have htm5 := blk_alloc htr (.cells #[.string who', .slice xA xn xc] 34)
          have hI5 := hI.alloc (.cells #[.string who', .slice xA xn xc] 34)
          have lb5 := lt_of_heap hbr5
          have lt5 := lt_of_heap htm5
          have lx5 := lt_of_heap hx5
          have z0 := (blk_facts hx5).1 0
          have z1 := (blk_facts hx5).1 1
          have z2 := (blk_facts hbr5).1 0
          have z3 := (blk_facts hbr5).1 1
          have z4 := (blk_facts hbr5).1 2
          have z5 := (blk_facts hbr5).1 3
          have z6 := (blk_facts hbr5).1 4
          have z7 := (blk_facts hbr5).1 5
          have z8 := (blk_facts hbr5).1 6
          have z9 := (blk_facts hbr5).1 7
          have z10 := (blk_facts htm5).1 0
          have hz5 := hB5.size
          go_wp2_with fail
          clear c0 c1 hown hBr hI hbr htr hB
          generalize hW : wr.alloc (.cells #[.string who', .slice xA xn xc] 34) = w5 at *
          generalize hb7 : wr.heap.size = b7 at *
          have hbw : w.heap.size + 1 < b7 := by omega
          clear hW
          obtain ⟨i0, hi0, hz0', hz1, hz2⟩ := info_parts info_wh
          go_region_held3 (fun w' => w'.cell? ⟨b7, 0, none⟩ = some (.string who') ∧ w'.cell? ⟨b7, 1, none⟩ = some (.slice xA xn xc) ∧ w'.cell? ⟨w.heap.size, 0, none⟩ = some (.string key) ∧ w'.cell? ⟨w.heap.size, 1, none⟩ = some (.int .i64 metres) ∧ w'.cell? ⟨w.heap.size, 2, none⟩ = some (.int .i64 stroke) ∧ w'.cell? ⟨w.heap.size, 3, none⟩ = some (.int .i64 course) ∧ w'.cell? ⟨w.heap.size, 4, none⟩ = some (.int .i64 legs) ∧ w'.cell? ⟨w.heap.size, 5, none⟩ = some (.int .i64 sex) ∧ w'.cell? ⟨w.heap.size, 6, none⟩ = some (.int .i64 young) ∧ w'.cell? ⟨w.heap.size, 7, none⟩ = some (.int .i64 old) ∧ w'.cell? ⟨w.heap.size + 1, 0, none⟩ = some (.int .i64 t))
            (first
              | go_keep
              | with_reducible exact ⟨y0, y1, y2, y3, y4, y5, y6, y7, y8, y9, y10⟩
              | with_reducible exact ⟨q0, q1, q2, q3, q4, q5, q6, q7, q8, q9, q10⟩)
            (first
              | (go_at_call 68; refine (hF1.out _ hI5.drew).mono ?_; rintro e w6 ⟨rfl, B6⟩; obtain ⟨hc6, hf6⟩ := bcell B6; have y0 := (hc6 b7 0 lx5).trans z0; have y1 := (hc6 b7 1 lx5).trans z1; have y2 := (hc6 w.heap.size 0 lb5).trans z2; have y3 := (hc6 w.heap.size 1 lb5).trans z3; have y4 := (hc6 w.heap.size 2 lb5).trans z4; have y5 := (hc6 w.heap.size 3 lb5).trans z5; have y6 := (hc6 w.heap.size 4 lb5).trans z6; have y7 := (hc6 w.heap.size 5 lb5).trans z7; have y8 := (hc6 w.heap.size 6 lb5).trans z8; have y9 := (hc6 w.heap.size 7 lb5).trans z9; have y10 := (hc6 (w.heap.size + 1) 0 lt5).trans z10; have hown6 := own_below hown5.drew B6; have hz6 : w5.heap.size ≤ w6.heap.size := B6.size)
              | (refine step_append_lies _ (by rfl) _ _ _ (by rfl) w3.heap.size 67 i0 _ 3 32 Tryz.underlying58 hi0 hz0' hz1 hz2 rfl (by omega) _ j (acc.flatMap whB) (by rfl) (hown6.alloc _) ⟨w6.heap.size, 0, none⟩ 1 1 [.string who', .int .i64 N, .int .i64 D] (by rfl) (by rfl) (World.news_of_block (cs := #[.string who', .int .i64 N, .int .i64 D]) (t := 67) (fr := (0, 0)) (heap_alloc_new w6 _)) (by simp [Value.oneCell']) (by omega) (by unfold maxLen; omega) (by omega) (by simp; omega) (w6.heap.size + 1) (by simp) ?_; intro gg cap w7 hown7 hgrow hat hlt7; have q0 := (hgrow.cell_far ⟨b7, 0, none⟩ (by simp; omega) (fun e => by have := hneS (b7) e.symm; omega)).trans ((World.cell?_alloc_lt w6 _ ⟨b7, 0, none⟩ (by show b7 < w6.heap.size; omega)).trans y0); have q1 := (hgrow.cell_far ⟨b7, 1, none⟩ (by simp; omega) (fun e => by have := hneS (b7) e.symm; omega)).trans ((World.cell?_alloc_lt w6 _ ⟨b7, 1, none⟩ (by show b7 < w6.heap.size; omega)).trans y1); have q2 := (hgrow.cell_far ⟨w.heap.size, 0, none⟩ (by simp; omega) (fun e => by have := hneS (w.heap.size) e.symm; omega)).trans ((World.cell?_alloc_lt w6 _ ⟨w.heap.size, 0, none⟩ (by show w.heap.size < w6.heap.size; omega)).trans y2); have q3 := (hgrow.cell_far ⟨w.heap.size, 1, none⟩ (by simp; omega) (fun e => by have := hneS (w.heap.size) e.symm; omega)).trans ((World.cell?_alloc_lt w6 _ ⟨w.heap.size, 1, none⟩ (by show w.heap.size < w6.heap.size; omega)).trans y3); have q4 := (hgrow.cell_far ⟨w.heap.size, 2, none⟩ (by simp; omega) (fun e => by have := hneS (w.heap.size) e.symm; omega)).trans ((World.cell?_alloc_lt w6 _ ⟨w.heap.size, 2, none⟩ (by show w.heap.size < w6.heap.size; omega)).trans y4); have q5 := (hgrow.cell_far ⟨w.heap.size, 3, none⟩ (by simp; omega) (fun e => by have := hneS (w.heap.size) e.symm; omega)).trans ((World.cell?_alloc_lt w6 _ ⟨w.heap.size, 3, none⟩ (by show w.heap.size < w6.heap.size; omega)).trans y5); have q6 := (hgrow.cell_far ⟨w.heap.size, 4, none⟩ (by simp; omega) (fun e => by have := hneS (w.heap.size) e.symm; omega)).trans ((World.cell?_alloc_lt w6 _ ⟨w.heap.size, 4, none⟩ (by show w.heap.size < w6.heap.size; omega)).trans y6); have q7 := (hgrow.cell_far ⟨w.heap.size, 5, none⟩ (by simp; omega) (fun e => by have := hneS (w.heap.size) e.symm; omega)).trans ((World.cell?_alloc_lt w6 _ ⟨w.heap.size, 5, none⟩ (by show w.heap.size < w6.heap.size; omega)).trans y7); have q8 := (hgrow.cell_far ⟨w.heap.size, 6, none⟩ (by simp; omega) (fun e => by have := hneS (w.heap.size) e.symm; omega)).trans ((World.cell?_alloc_lt w6 _ ⟨w.heap.size, 6, none⟩ (by show w.heap.size < w6.heap.size; omega)).trans y8); have q9 := (hgrow.cell_far ⟨w.heap.size, 7, none⟩ (by simp; omega) (fun e => by have := hneS (w.heap.size) e.symm; omega)).trans ((World.cell?_alloc_lt w6 _ ⟨w.heap.size, 7, none⟩ (by show w.heap.size < w6.heap.size; omega)).trans y9); have q10 := (hgrow.cell_far ⟨w.heap.size + 1, 0, none⟩ (by simp; omega) (fun e => by have := hneS (w.heap.size + 1) e.symm; omega)).trans ((World.cell?_alloc_lt w6 _ ⟨w.heap.size + 1, 0, none⟩ (by show w.heap.size + 1 < w6.heap.size; omega)).trans y10)))
          have hB6 := below_next (below_drewN hB5 1) B6
          have hB7 := below_own (hB6.alloc hB6.size _) (hown6.alloc _) hgrow (by have := hB6.size; simp; omega) (Nat.le_refl _)
          have H := Lib.hid (And.intro (snoc_wh hO.out hown7) hB7)
          clear hown7 hgrow hat hlt7 hi0 hz0' hz1 hz2 hc6 hf6 hown6 hown5 hB5 B6 hB6 hneS hB7 hI5 hbr5 htm5 hx5 z0 z1 z2 z3 z4 z5 z6 z7 z8 z9 z10 y0 y1 y2 y3 y4 y5 y6 y7 y8 y9 y10 q0 q1 q2 q3 q4 q5 q6 q7 q8 q9 q10
          go_wp2
          go_roundw
          case rel => exact ⟨j + 1, _, by omega, by go_num, Lib.hid (by rw [List.length_append, hla.out]; rfl), H.out.1, H.out.2, Lib.hid (by rw [← hG.out, hT.out]; simp)⟩
          case measure => simp [intOf]; omega
        · obtain rfl : j = n := by omega
          have hG2 : acc.map Subtype.val = SL.map AW := by have := hG.out; rw [drop_end (by rw [hLl.out]; exact Nat.le_refl _)] at this; simpa using this
          rw [← hWL.out] at hG2
          have hla' := hla.out
          obtain ⟨A9, c9, rfl⟩ := own_shape hown
          go_wp2
          go_ret
          refine ⟨A9, c9, rfl, ?_, hB⟩
          rw [whB_flat, hG2] at hown
          exact RN.of_own whE_len hown (by rw [← hG2, List.length_map, hla']) (by omega)
end Go.Proofs.YtmnidnmdjkfhnaaGreatDoor

