import Derived.Test.YtdbfcneeiiialaaDoorWhereR
import Derived.Test.YtdbfcneeiiialaaDoorSortSt
import Derived.Test.YtdbfcneeiiialaaDoorEqWh
import Derived.Deep.DeepCutAuto
/- race.leaders: who leads at a time, by their numbers, in a row that is used again. -/
namespace Go.Proofs.YtdbfcneeiiialaaDoor
open Go.RowKit
set_option linter.unusedVariables false

section
variable {P : Program} {w : World}
/-- append as wpList_app, and where the row lies -/
theorem wpList_appAt {ops : Array Oper} {rest : List Oper} {o : Oper} {a : Act} {Q : Exit → Act → World → Prop} (hgd : o.guard = none) (s x : Operand) (t : TypeId)
    (ho : o.op = .call { callee := .builtin .append, args := #[s, x], argTypes := #[t, t] })
    {e : TypeId} {z : Value} {size bytes : Nat} (ht : P.underlying t = some (.slice e)) (hinfo : (P.info? e).map (fun i => (i.zero, i.size, i.bytes)) = some (some z, size, bytes))
    (hzs : z.cells.size = size) (hsz : 0 < size) (hby : bytes ≤ 1024)
    {base : Nat} {v : Value} {n : Nat} {xs : List Value} (hown : w.ownsRow base e size v n xs) (hs : a.eval s = v)
    {cs : Array Value} {b c : Nat} (hx : a.eval x = .slice (some ⟨b, 0, none⟩) 1 c) (hb : w.heap.size = b)
    (hcs : cs.size = size) (h1 : ∀ u ∈ cs.toList, u.oneCell' = true) (hn : n ≤ 1000000) (hbase : base ≤ w.heap.size)
    (h : ∀ v' w', w'.ownsRow base e size v' (n + 1) (xs ++ cs.toList) → w.grownBy w' v.ownBlock → (∀ i, v'.ownBlock = some i → v.ownBlock = some i ∨ w.heap.size ≤ i) → wpList P ops Q rest (a.put o.dst v') w') :
    wpList P ops Q (o :: rest) a (w.alloc (.cells cs e)) := by
  subst hb
  obtain ⟨i, hi, hz0, hz1, hz2⟩ := info_parts hinfo
  have hm : (n + 1) * bytes ≤ 1000001 * 1024 := Nat.mul_le_mul (by omega) hby
  refine wpList_append_own_at (w.alloc (.cells cs e)) hgd s x t ho base e i z size bytes ht hi hz0 hz1 hz2 hzs hsz v n xs hs (hown.alloc _) ⟨w.heap.size, 0, none⟩ 1 c cs.toList hx ?_ ?_ h1 ?_ ?_ ?_ ?_
  · simp [hcs]
  · intro j u hj
    have hadd : (⟨w.heap.size, 0, none⟩ : Addr).add j = ⟨w.heap.size, j, none⟩ := by unfold Addr.add; split <;> simp_all
    rw [hadd]
    exact blk_cell (heap_alloc_new w _) j (by simpa using hj)
  · unfold maxLen; omega
  · omega
  · simp; omega
  · intro v' w' hown' hg _ hat
    have hsize : (w.alloc (.cells cs e)).heap.size = w.heap.size + 1 := by simp
    refine h v' w' hown' ⟨hg.os, hg.tape, hg.output, by have := hg.size; omega, fun k hk hne => (hg.block k (by omega) hne).trans (Below.heap_alloc w _ k hk)⟩ ?_
    intro i hi
    rcases hat with hat | hat
    · exact .inl (by rw [← hat]; exact hi)
    · refine .inr ?_
      rw [hat] at hi
      injection hi with hi
      omega
end
section
variable {a w w' : World} {base : Nat} {e : TypeId} {size : Nat} {v v' : Value} {n : Nat} {xs : List Value} {A : Option Addr} {c : Nat}
/-- an own row, cut to nothing -/
theorem own_zero (h : w.ownsRow base e size (.slice A n c) n xs) : w.ownsRow base e size (.slice A 0 c) 0 [] := by
  refine ⟨by simp, ?_⟩
  rcases h.2 with ⟨hv, h0⟩ | ⟨g, cap, cur, hv, hb, hg, hn, hc, hm, ht⟩
  · injection hv with h1 h2 h3
    subst h1; subst h3
    exact .inl ⟨rfl, rfl⟩
  · injection hv with h1 h2 h3
    subst h1; subst h3
    exact .inr ⟨g, c, cur, rfl, hb, hg, by omega, hc, hm, by simp⟩
/-- steps that write one row, which may move to new memory -/
theorem grown_to {r r' : Option Nat} (h : a.grownBy w r) (k : w.grownBy w' r') (hr : ∀ i, r' = some i → r = some i ∨ a.heap.size ≤ i) : a.grownBy w' r :=
  ⟨k.os.trans h.os, k.tape.trans h.tape, k.output.trans h.output, Nat.le_trans h.size k.size, fun i hi hne =>
    (k.block i (Nat.lt_of_lt_of_le hi h.size) (fun e => by rcases hr i e.symm with h1 | h1; exact hne h1.symm; omega)).trans (h.block i hi hne)⟩
end
/-- who leads at a time, with their numbers -/
def ldL (r : Race) (t : Int) (l : List Sw) : List (Sw × Nat) := ldF (fun x => atP r t x.1.sp) [] (0, 1) l.zipIdx
def ldI (l : List (Sw × Nat)) : List Int := l.map fun x => (x.2 : Int)
theorem zip_at {l : List Sw} {k : Nat} {x : Sw} (h : l[k]? = some x) : l.zipIdx[k]? = some (x, k) := by rw [List.getElem?_zipIdx, h]; simp
theorem cmp3 (a b : Int) : Lib.compareInt a b = -1 ∨ Lib.compareInt a b = 0 ∨ Lib.compareInt a b = 1 := by unfold Lib.compareInt; split <;> (try split) <;> simp
set_option maxHeartbeats 6400000 in
set_option maxRecDepth 100000 in
theorem leaders_c (r : Race) (A : Option Addr) (n c : Nat) (l : List Sw) (t : Int) (w0 w : World) (base n0 : Nat) (v : Value) (xs0 : List Value) (h : RSw w0 A n l) (hB0 : Below w0.heap.size w0 w) (hw : ∀ x ∈ l, wholeErr r x.sp = 0) (ht0 : 0 ≤ t) (ht1 : t ≤ 360000) (hn : n ≤ 1000)
    (hown : w.ownsRow base 3 1 v n0 xs0) (hbs : w0.heap.size ≤ base) (hbase : base ≤ w.heap.size) :
    Calls Tryd.prog 24 #[r.val, .slice A n c, .int .i64 t, v] w fun e w' => ∃ v', e = .returned v' ∧ w'.ownsRow base 3 1 v' (ldL r t l).length (ints (ldI (ldL r t l))) ∧ w.grownBy w' v.ownBlock ∧ (∀ i, v'.ownBlock = some i → v.ownBlock = some i ∨ w.heap.size ≤ i) := by
  have hF := Lib.hid (fun W (x : Sw) (hx : x ∈ l) (h : RI 3 W x.A x.n x.sp) => show Calls Tryd.prog 36 #[r.val, .slice x.A x.n x.c, .int .i64 t] W fun e w' => e = .returned (.tuple #[.int .i64 (atP r t x.sp).1, .int .i64 (atP r t x.sp).2]) ∧ Below W.heap.size W w' from where_c r x.A x.n x.c x.sp t W h (hw x hx) ht0 ht1)
  have hOk := Lib.hid (fun x (hx : x ∈ l) => show 0 ≤ (atP r t x.sp).1 ∧ (atP r t x.sp).1 ≤ 4400000000 ∧ 0 ≤ (atP r t x.sp).2 ∧ (atP r t x.sp).2 ≤ 360000 from by obtain ⟨b1, b2, b3, b4⟩ := farP_bd (hw x hx) ht0 ht1; exact ⟨b1, b2, Int.le_of_lt b3, b4⟩)
  have hAt := Lib.hid (fun k (x : Sw) acc b (hx : l[k]? = some x) => ldF_at (f := fun x : Sw × Nat => atP r t x.1.sp) acc b (zip_at hx))
  have hLD : Hid (ldF (fun x : Sw × Nat => atP r t x.1.sp) [] (0, 1) l.zipIdx = ldL r t l) := Lib.hid rfl
  have hL0 := Lib.hid (fun acc b => show ldF (fun x : Sw × Nat => atP r t x.1.sp) acc b [] = acc from rfl)
  have hzl : Hid (l.zipIdx.length = n) := Lib.hid (by rw [List.length_zipIdx]; exact h.len)
  have hcon := Lib.hid (fun a b W' => Tryd.cmp_Compare_int a b W')
  generalize ldL r t l = LD at *
  generalize hLF : ldF (fun x : Sw × Nat => atP r t x.1.sp) = LF at *
  clear hLF
  generalize atP r t = AP at *
  generalize l.zipIdx = zl at *
  clear hw
  obtain ⟨key, metres, stroke, course, legs, sex, young, old⟩ := r
  dsimp only [Race.val, Race.cells] at *
  have hb0 := heap_alloc_new w (.cells #[.string key, .int .i64 metres, .int .i64 stroke, .int .i64 course, .int .i64 legs, .int .i64 sex, .int .i64 young, .int .i64 old] 27)
  have hg0 : w.grownBy (w.alloc (.cells #[.string key, .int .i64 metres, .int .i64 stroke, .int .i64 course, .int .i64 legs, .int .i64 sex, .int .i64 young, .int .i64 old] 27)) v.ownBlock := grown_alloc (grown_refl _ _) _
  have hBw := hB0.alloc hB0.size (.cells #[.string key, .int .i64 metres, .int .i64 stroke, .int .i64 course, .int .i64 legs, .int .i64 sex, .int .i64 young, .int .i64 old] 27)
  have hown1 := hown.alloc (.cells #[.string key, .int .i64 metres, .int .i64 stroke, .int .i64 course, .int .i64 legs, .int .i64 sex, .int .i64 young, .int .i64 old] 27)
  have hlt0 := hown.lt
  obtain ⟨vA, vc, rfl⟩ := own_shape hown
  have hz0 : (w.alloc (.cells #[.string key, .int .i64 metres, .int .i64 stroke, .int .i64 course, .int .i64 legs, .int .i64 sex, .int .i64 young, .int .i64 old] 27)).heap.size = w.heap.size + 1 := alloc_size _ _
  go_enter Tryd.func24, Tryd.ntmps24
  go_wp2_with fail
  go_loopw [3, 9, 10, 20] (fun v3 a9 b10 i wr => ∃ (k : Nat) (acc : List (Sw × Nat)) (ba bb : Int), k ≤ n ∧ i = .int .i64 k ∧ a9 = .int .i64 ba ∧ b10 = .int .i64 bb ∧ 0 ≤ ba ∧ ba ≤ 4400000000 ∧ 0 ≤ bb ∧ bb ≤ 360000 ∧ acc.length ≤ k ∧ Hid (acc = [] ↔ k = 0) ∧ wr.ownsRow base 3 1 v3 acc.length (ints (ldI acc)) ∧ w.grownBy wr (Value.slice vA n0 vc).ownBlock ∧ Hid (∀ i, v3.ownBlock = some i → (Value.slice vA n0 vc).ownBlock = some i ∨ w.heap.size + 1 ≤ i) ∧ Below w0.heap.size w0 wr ∧ wr.heap[w.heap.size]? = some (.cells #[.string key, .int .i64 metres, .int .i64 stroke, .int .i64 course, .int .i64 legs, .int .i64 sex, .int .i64 young, .int .i64 old] 27 (0, 0)) ∧ Hid (LF acc (ba, bb) (zl.drop k) = LD)) (fun _ _ _ i _ => n - (intOf i).toNat)
  case atStart => exact ⟨0, [], 0, 1, Nat.zero_le _, rfl, rfl, rfl, by decide, by decide, by decide, by decide, Nat.le_refl _, Lib.hid (by simp), own_zero hown1, hg0, Lib.hid (fun i hi => .inl (by cases vA <;> exact hi)), hBw, hb0, Lib.hid hLD.out⟩
  case round =>
    clear hb0 hg0 hBw hown1 hB0 hown
    obtain ⟨k, acc, ba, bb, hk, rfl, rfl, rfl, ba0, ba1, bb0, bb1, hak, hak0, hown, hgr, hat, hB, hbr, hG⟩ := hrel
    by_cases hlt : k < n
    · obtain ⟨b, off, x, hA, hbl, hx, c0, c1, hI⟩ := (h.below hB).at2 hlt
      subst hA
      have hxm := List.mem_of_getElem? hx
      have hT := Lib.hid (hAt.out k x acc (ba, bb) hx)
      have hF1 := Lib.hid (fun W hh => hF.out W x hxm hh)
      obtain ⟨ax0, ax1, bx0, bx1⟩ := hOk.out x hxm
      obtain ⟨who, xA, xn, xc, xs⟩ := x
      dsimp only at *
      generalize hAP : AP xs = ap at *
      have hAP' := Lib.hid hAP
      clear hx hxm hAP
      obtain ⟨fa, fb⟩ := ap
      dsimp only at *
      have hz := hB.size
      have hown5 := hown.alloc (.cells #[.string who, .slice xA xn xc] 43)
      have hB5 := hB.alloc hz (.cells #[.string who, .slice xA xn xc] 43)
      have hx5 := heap_alloc_new wr (.cells #[.string who, .slice xA xn xc] 43)
      have hbr5 := blk_alloc hbr (.cells #[.string who, .slice xA xn xc] 43)
      have hI5 := hI.alloc (.cells #[.string who, .slice xA xn xc] 43)
      have hgr5 := grown_alloc hgr (.cells #[.string who, .slice xA xn xc] 43)
      have z0 := (blk_facts hx5).1 0
      have z1 := (blk_facts hx5).1 1
      have zr := (blk_facts hbr5).1
      have m1 : IntKind.i64.wrap (fa * bb) = fa * bb := by have := mul_in ax0 ax1 bb0 bb1; exact IntWalk.i64_in _ (by omega)
      have m2 : IntKind.i64.wrap (ba * fb) = ba * fb := by have := mul_in ba0 ba1 bx0 bx1; exact IntWalk.i64_in _ (by omega)
      clear hown hgr hB hI hbr
      go_wp2_with fail
      refine (hF1.out _ hI5).mono ?_; rintro e w6 ⟨rfl, B6⟩
      have hown6 := own_below hown5 B6
      have hB6 := below_next hB5 B6
      have hbr6 := blk_below hbr5 B6
      have hgr6 : w.grownBy w6 (Value.slice vA n0 vc).ownBlock := grown_to hgr5 (grown_of_below B6 (row := none)) (fun i hi => by cases hi)
      have hz6 := hB6.size
      have hw6 := hgr6.size
      have hl6 := lt_of_heap hbr6
      clear hown5 hB5 hbr5 hgr5 B6 z0 z1 zr c0 c1 hI5 hx5 hF1
      go_wp2_with fail
      refine (hcon.out _ _ _).mono ?_; rintro e w' ⟨rfl, rfl⟩
      have hatv := hat
      obtain ⟨hA6, hc6, rfl⟩ : ∃ A6 c6, u3 = .slice A6 acc.length c6 := own_shape hown6
      have hatv0 : Hid (∀ i, (Value.slice hA6 0 hc6).ownBlock = some i → (Value.slice vA n0 vc).ownBlock = some i ∨ w.heap.size + 1 ≤ i) := Lib.hid (by cases hA6 <;> exact hatv.out)
      generalize hcv : Lib.compareInt (fa * bb) (ba * fb) = cv at *
      have h3 : cv = -1 ∨ cv = 0 ∨ cv = 1 := by rw [← hcv]; exact cmp3 _ _
      clear hcv
      by_cases hk0 : k = 0
      · have ha0 : acc = [] := hak0.out.2 hk0
        have hTw := Lib.hid (show LF acc (ba, bb) (zl.drop k) = LF [({ who := who, A := xA, n := xn, c := xc, sp := xs }, k)] (fa, fb) (zl.drop (k + 1)) by rw [hT.out, if_pos (.inl ha0)])
        clear hT h3
        subst hk0
        go_wp2_with (at_builtin; refine wpList_appAt rfl (.tmp 47) (.tmp 49) 22 rfl Tryd.underlying22 info_int rfl (by omega) (by omega) (own_zero hown6) rfl rfl (by first | rfl | (simp; done)) rfl (by simp [Value.oneCell']) (by first | omega | (simp; done)) (by omega) ?_; intro v4 w4 hown4 hg4 hat4; have hgr4 := grown_to hgr6 hg4 (fun i hi => (hatv0.out i hi).imp id (fun h => by omega)); have hB4 := below_own hB6 (own_zero hown6) hg4 hz6 (by omega); have hbr4 := blk_grown hbr6 hg4 (by intro e; have := hatv0.out _ e.symm; rcases this with h1 | h1; have := hlt0 _ h1; omega; omega))
        have H := Lib.hid (And.intro hown4 (And.intro hgr4 (And.intro hat4 hB4)))
        clear hown4 hgr4 hat4 hg4 hB4
        go_roundw
        case rel => exact ⟨0 + 1, [({ who := who, A := xA, n := xn, c := xc, sp := xs }, 0)], fa, fb, by omega, by go_num, rfl, rfl, by omega, by omega, by omega, by omega, by simp, Lib.hid (by simp), H.out.1, H.out.2.1, Lib.hid (fun i hi => by rcases H.out.2.2.1 i hi with h1 | h1; exact hatv0.out i h1; exact .inr (by omega)), H.out.2.2.2, hbr4, Lib.hid (by rw [← hG.out]; exact hTw.out.symm)⟩
        case measure => simp [intOf]; omega
      · have htk : ((k : Int) == 0) = false := beq_eq_false_iff_ne.2 (by omega)
        rcases h3 with rfl | rfl | rfl
        · have hTw := Lib.hid (show LF acc (ba, bb) (zl.drop k) = LF acc (ba, bb) (zl.drop (k + 1)) by rw [hT.out, if_neg (by rintro (h | h); exact hk0 (hak0.out.1 h); exact absurd h (by decide)), if_neg (by decide)])
          clear hT
          go_wp2
          go_roundw
          case rel => exact ⟨k + 1, acc, ba, bb, by omega, by go_num, rfl, rfl, by omega, by omega, by omega, by omega, by omega, Lib.hid (by rw [hak0.out]; simp [hk0]), hown6, hgr6, hatv, hB6, hbr6, Lib.hid (by rw [← hG.out]; exact hTw.out.symm)⟩
          case measure => simp [intOf]; omega
        · have hTw := Lib.hid (show LF acc (ba, bb) (zl.drop k) = LF (acc ++ [({ who := who, A := xA, n := xn, c := xc, sp := xs }, k)]) (ba, bb) (zl.drop (k + 1)) by rw [hT.out, if_neg (by rintro (h | h); exact hk0 (hak0.out.1 h); exact absurd h (by decide)), if_pos rfl])
          clear hT
          go_wp2_with (at_builtin; refine wpList_appAt rfl (.tmp 55) (.tmp 57) 22 rfl Tryd.underlying22 info_int rfl (by omega) (by omega) hown6 rfl rfl (by first | rfl | (simp; done)) rfl (by simp [Value.oneCell']) (by first | omega | (simp; done)) (by omega) ?_; intro v4 w4 hown4 hg4 hat4; have hgr4 := grown_to hgr6 hg4 (fun i hi => (hatv.out i hi).imp id (fun h => by omega)); have hB4 := below_own hB6 hown6 hg4 hz6 (by omega); have hbr4 := blk_grown hbr6 hg4 (by intro e; have := hatv.out _ e.symm; rcases this with h1 | h1; have := hlt0 _ h1; omega; omega))
          have H := Lib.hid (And.intro hown4 (And.intro hgr4 (And.intro hat4 hB4)))
          clear hown4 hgr4 hat4 hg4 hB4
          go_roundw
          case rel => exact ⟨k + 1, acc ++ [({ who := who, A := xA, n := xn, c := xc, sp := xs }, k)], ba, bb, by omega, by go_num, rfl, rfl, by omega, by omega, by omega, by omega, by simp; omega, Lib.hid (by simp), by have := H.out.1; simpa [ldI, ints] using this, H.out.2.1, Lib.hid (fun i hi => by rcases H.out.2.2.1 i hi with h1 | h1; exact hatv.out i h1; exact .inr (by omega)), H.out.2.2.2, hbr4, Lib.hid (by rw [← hG.out]; exact hTw.out.symm)⟩
          case measure => simp [intOf]; omega
        · have hTw := Lib.hid (show LF acc (ba, bb) (zl.drop k) = LF [({ who := who, A := xA, n := xn, c := xc, sp := xs }, k)] (fa, fb) (zl.drop (k + 1)) by rw [hT.out, if_pos (.inr rfl)])
          clear hT
          go_wp2_with (at_builtin; refine wpList_appAt rfl (.tmp 47) (.tmp 49) 22 rfl Tryd.underlying22 info_int rfl (by omega) (by omega) (own_zero hown6) rfl rfl (by first | rfl | (simp; done)) rfl (by simp [Value.oneCell']) (by first | omega | (simp; done)) (by omega) ?_; intro v4 w4 hown4 hg4 hat4; have hgr4 := grown_to hgr6 hg4 (fun i hi => (hatv0.out i hi).imp id (fun h => by omega)); have hB4 := below_own hB6 (own_zero hown6) hg4 hz6 (by omega); have hbr4 := blk_grown hbr6 hg4 (by intro e; have := hatv0.out _ e.symm; rcases this with h1 | h1; have := hlt0 _ h1; omega; omega))
          have H := Lib.hid (And.intro hown4 (And.intro hgr4 (And.intro hat4 hB4)))
          clear hown4 hgr4 hat4 hg4 hB4
          go_roundw
          case rel => exact ⟨k + 1, [({ who := who, A := xA, n := xn, c := xc, sp := xs }, k)], fa, fb, by omega, by go_num, rfl, rfl, by omega, by omega, by omega, by omega, by simp, Lib.hid (by simp), H.out.1, H.out.2.1, Lib.hid (fun i hi => by rcases H.out.2.2.1 i hi with h1 | h1; exact hatv0.out i h1; exact .inr (by omega)), H.out.2.2.2, hbr4, Lib.hid (by rw [← hG.out]; exact hTw.out.symm)⟩
          case measure => simp [intOf]; omega
    · obtain rfl : k = n := by omega
      have hG2 : acc = LD := by have := hG.out; rw [drop_end (by rw [hzl.out]; exact Nat.le_refl _), hL0.out] at this; exact this
      subst hG2
      go_wp2
      go_ret
      exact ⟨_, rfl, hown, hgr, fun i hi => (hat.out i hi).imp id (fun h => by omega)⟩
end Go.Proofs.YtdbfcneeiiialaaDoor

/- Phases in memory; the standing facts of a loop that makes them. -/
namespace Go.Proofs.YtdbfcneeiiialaaDoor
open Go.RowKit
set_option linter.unusedVariables false

structure Ph where
  f : Int
  t : Int
  A : Option Addr
  n : Nat
  c : Nat
  who : List ByteArray
def phE (x : Ph) : List Value := [.int .i64 x.f, .int .i64 x.t, .slice x.A x.n x.c]
theorem phE_len : ∀ x, (phE x).length = 3 := fun _ => rfl
def Ph.dat (x : Ph) : Int × Int × List ByteArray := (x.f, x.t, x.who)
theorem info_ph : (Tryd.prog.info? 40).map (fun i => (i.zero, i.size, i.bytes)) = some (some (.agg #[.int .i64 0, .int .i64 0, .slice none 0 0]), 3, 40) := by kernel_rfl
section
variable {w w' : World} {base base' : Nat} {e e' : TypeId} {size size' : Nat} {v v' : Value} {n n' : Nat} {xs xs' : List Value}
/-- rows of different elements lie in different blocks -/
theorem own_diff (h : w.ownsRow base e size v n xs) (h' : w.ownsRow base' e' size' v' n' xs') (hne : e ≠ e') : v.ownBlock = none ∨ v.ownBlock ≠ v'.ownBlock := by
  rcases h.2 with ⟨rfl, _⟩ | ⟨g, cap, cur, rfl, _, hg, _⟩
  · exact .inl rfl
  · refine .inr fun he => ?_
    rcases h'.2 with ⟨rfl, _⟩ | ⟨g', cap', cur', rfl, _, hg', _⟩
    · simp [Value.ownBlock] at he
    · have e1 : g = g' := by simpa [Value.ownBlock] using he
      subst e1
      rw [hg] at hg'
      injection hg' with hg'
      injection hg' with _ ht
      exact hne ht
theorem own_low (h : w.ownsRow base e size v n xs) (hb : base' ≤ base) : w.ownsRow base' e size v n xs := own_mono h hb
end
/-- a phase's end, stored -/
theorem ph_set : ∀ (P : List Ph) (y : Ph) (t : Int), ((P ++ [y]).flatMap phE).set (P.length * 3 + 1) (.int .i64 t) = (P ++ [{ y with t := t }]).flatMap phE
  | [], y, t => rfl
  | x :: P, y, t => by
    have ih := ph_set P y t
    rw [List.cons_append, List.flatMap_cons, List.cons_append, List.flatMap_cons, ← ih, List.length_cons]
    show ([Value.int .i64 x.f, .int .i64 x.t, .slice x.A x.n x.c] ++ _).set ((P.length + 1) * 3 + 1) _ = _
    rw [show (P.length + 1) * 3 + 1 = (P.length * 3 + 1) + 3 by omega]
    rfl
/-- phases made so far -/
structure LS (w : World) (b2 B0 : Nat) (rc : Array Value) (out : Value) (P : List Ph) (wr : World) : Prop where
  o : wr.ownsRow B0 40 3 out P.length (P.flatMap phE)
  wh : ∀ x ∈ P, wr.ownsRow B0 9 1 (.slice x.A x.n x.c) x.n (x.who.map Value.string)
  rc : wr.heap[b2]? = some (.cells rc 27 (0, 0))
  bel : Below w.heap.size w wr
  b0 : w.heap.size ≤ B0
  b1 : b2 < B0
  b3 : B0 ≤ wr.heap.size
section
variable {w wr w' : World} {b2 B0 : Nat} {rc : Array Value} {out : Value} {P : List Ph}
theorem LS.below (h : LS w b2 B0 rc out P wr) (B : Below wr.heap.size wr w') : LS w b2 B0 rc out P w' :=
  ⟨own_below h.o B, fun x hx => own_below (h.wh x hx) B, blk_below h.rc B, below_next h.bel B, h.b0, h.b1, Nat.le_trans h.b3 B.size⟩
/-- a row of ints is written anew -/
theorem LS.row {now : Value} {nn : Nat} {xs : List Value} (h : LS w b2 B0 rc out P wr) (hn : wr.ownsRow B0 3 1 now nn xs) (hg : wr.grownBy w' now.ownBlock) : LS w b2 B0 rc out P w' := by
  refine ⟨h.o.kept hg (own_diff h.o hn (by decide)), fun x hx => (h.wh x hx).kept hg (own_diff (h.wh x hx) hn (by decide)), blk_grown h.rc hg ?_, ?_, h.b0, h.b1, Nat.le_trans h.b3 hg.size⟩
  · intro e
    have := (hn.lt b2 e.symm).1
    have := h.b1
    omega
  · exact below_own h.bel hn hg h.bel.size h.b0
/-- the last phase's end is stored -/
theorem LS.ext {g c : Nat} {y : Ph} (h : LS w b2 B0 rc (.slice (some ⟨g, 0, none⟩) (P ++ [y]).length c) (P ++ [y]) wr) (t : Int) : LS w b2 B0 rc (.slice (some ⟨g, 0, none⟩) (P ++ [y]).length c) (P ++ [{ y with t := t }]) (wr.setCell ⟨g, P.length * 3 + 1, none⟩ (.int .i64 t)) := by
  have hgl := h.o.lt g rfl
  have hgr : wr.grownBy (wr.setCell ⟨g, P.length * 3 + 1, none⟩ (.int .i64 t)) (some g) := grown_setCell (grown_refl _ _) (.inl rfl) _
  have ho := (h.o.stored (P.length * 3 + 1) (.int .i64 t)).1
  rw [ph_set] at ho
  refine ⟨by simpa using ho, fun x hx => ?_, blk_other h.rc (by show b2 ≠ g; have := h.b1; omega) _, ?_, h.b0, h.b1, by simpa [World.setCell] using h.b3⟩
  · have key : ∀ x' : Ph, x' ∈ P ++ [y] → (wr.setCell ⟨g, P.length * 3 + 1, none⟩ (.int .i64 t)).ownsRow B0 9 1 (.slice x'.A x'.n x'.c) x'.n (x'.who.map Value.string) := fun x' hx' => (h.wh x' hx').kept hgr (own_diff (h.wh x' hx') h.o (by decide))
    rcases List.mem_append.1 hx with hx | hx
    · exact key x (List.mem_append_left _ hx)
    · simp at hx; subst hx
      exact key y (by simp)
  · exact h.bel.setCell (by show w.heap.size ≤ g; have := h.b0; omega) _
/-- one more phase -/
theorem LS.app {y : Ph} {out' : Value} (h : LS w b2 B0 rc out P wr) (ho : w'.ownsRow B0 40 3 out' (P.length + 1) (P.flatMap phE ++ phE y)) (hg : wr.grownBy w' out.ownBlock) (hy : wr.ownsRow B0 9 1 (.slice y.A y.n y.c) y.n (y.who.map Value.string)) : LS w b2 B0 rc out' (P ++ [y]) w' := by
  refine ⟨by rw [flat_snoc] at ho; simpa using ho, fun x hx => ?_, blk_grown h.rc hg ?_, below_own h.bel h.o hg h.bel.size h.b0, h.b0, h.b1, Nat.le_trans h.b3 hg.size⟩
  · rcases List.mem_append.1 hx with hx | hx
    · exact (h.wh x hx).kept hg (own_diff (h.wh x hx) h.o (by decide))
    · simp at hx; subst hx
      exact hy.kept hg (own_diff hy h.o (by decide))
  · intro e
    have := (h.o.lt b2 e.symm).1
    have := h.b1
    omega
end
theorem LS.low {w wr : World} {b2 B0 B1 : Nat} {rc : Array Value} {out : Value} {P : List Ph} (h : LS w b2 B0 rc out P wr) (h1 : B1 ≤ B0) (h2 : w.heap.size ≤ B1) (h3 : b2 < B1) : LS w b2 B1 rc out P wr :=
  ⟨own_low h.o h1, fun x hx => own_low (h.wh x hx) h1, h.rc, h.bel, h2, h3, Nat.le_trans h1 h.b3⟩
theorem LS.start {w wr : World} {b2 : Nat} {rc : Array Value} (hrc : wr.heap[b2]? = some (.cells rc 27 (0, 0))) (hb : Below w.heap.size w wr) : LS w b2 wr.heap.size rc (.slice none 0 0) [] wr :=
  ⟨World.ownsRow_nil _ _ _ _, fun x hx => (by cases hx), hrc, hb, hb.size, lt_of_heap hrc, Nat.le_refl _⟩
def eqS (a b : List ByteArray) : Bool := decide (a = b)
end Go.Proofs.YtdbfcneeiiialaaDoor

/- The reference's LeadersAt: who leads at a time. -/
namespace Go.Proofs.YtdbfcneeiiialaaDoor
open Go.RowKit
set_option linter.unusedVariables false

/-- an own row lies in no block of other elements -/
theorem own_diffB {w : World} {base : Nat} {e : TypeId} {size n : Nat} {v : Value} {xs : List Value} {b : Nat} {cs : Array Value} {t : TypeId} {fz : Nat × Nat} (h : w.ownsRow base e size v n xs) (hb : w.heap[b]? = some (.cells cs t fz)) (hne : t ≠ e) : v.ownBlock ≠ some b := by
  intro he
  rcases h.2 with ⟨rfl, _⟩ | ⟨g, cap, cur, rfl, _, hg, _⟩
  · simp [Value.ownBlock] at he
  · have e1 : g = b := by simpa [Value.ownBlock] using he
    subst e1
    rw [hg] at hb
    injection hb with hb
    injection hb with _ ht
    exact hne ht.symm
def ldN (l : List (Sw × Nat)) : List ByteArray := l.map fun x => x.1.who
end Go.Proofs.YtdbfcneeiiialaaDoor

/- Phases of a right field: step by step. Plain. -/
namespace Go.Proofs.YtdbfcneeiiialaaDoor
open Go.RowKit
set_option linter.unusedVariables false

theorem ldF_sub {α : Type} (f : α → Int × Int) : ∀ (l acc : List α) (b : Int × Int) (x : α), x ∈ ldF f acc b l → x ∈ acc ∨ x ∈ l
  | [], acc, b, x, h => .inl h
  | y :: l, acc, b, x, h => by
    rw [ldF] at h
    split at h
    · rcases ldF_sub f l _ _ x h with h | h
      · simp at h; subst h; exact .inr (by simp)
      · exact .inr (List.mem_cons_of_mem _ h)
    · split at h
      · rcases ldF_sub f l _ _ x h with h | h
        · rcases List.mem_append.1 h with h | h
          · exact .inl h
          · simp at h; subst h; exact .inr (by simp)
        · exact .inr (List.mem_cons_of_mem _ h)
      · rcases ldF_sub f l _ _ x h with h | h
        · exact .inl h
        · exact .inr (List.mem_cons_of_mem _ h)
theorem ldL_at {r : Race} {t : Int} {l : List Sw} {x : Sw × Nat} (h : x ∈ ldL r t l) : l[x.2]? = some x.1 := by
  rcases ldF_sub _ _ _ _ _ h with h | h
  · cases h
  · have := List.mem_zipIdx_iff_getElem?.1 h
    exact this
theorem ldL_len (r : Race) (t : Int) (l : List Sw) : (ldL r t l).length ≤ l.length := by
  have key : ∀ (f : Sw × Nat → Int × Int) (l acc : List (Sw × Nat)) (b : Int × Int), (ldF f acc b l).length ≤ acc.length + l.length ∨ (ldF f acc b l).length ≤ 1 + l.length := by
    intro f l
    induction l with
    | nil => intro acc b; exact .inl (by simp [ldF])
    | cons x l ih =>
      intro acc b
      rw [ldF]
      split
      · rcases ih [x] (f x) with h | h <;> exact .inr (by simp at h ⊢; omega)
      · split
        · rcases ih (acc ++ [x]) b with h | h
          · exact .inl (by simp at h ⊢; omega)
          · exact .inr (by simp at h ⊢; omega)
        · rcases ih acc b with h | h
          · exact .inl (by simp at h ⊢; omega)
          · exact .inr (by simp at h ⊢; omega)
  have hz : l.zipIdx.length = l.length := List.length_zipIdx
  unfold ldL
  rcases hl : l.zipIdx with _ | ⟨x, q⟩
  · rw [hl] at hz; simp [ldF]
  · rw [hl] at hz
    simp only [List.length_cons] at hz
    rw [ldF, if_pos (.inl rfl)]
    rcases key (fun x => atP r t x.1.sp) q [x] (atP r t x.1.sp) with h | h
    · simp at h; omega
    · omega
theorem map_inj {α β : Type} (f : α → β) : ∀ (a b : List α), (∀ x ∈ a, ∀ y ∈ b, f x = f y → x = y) → a.map f = b.map f → a = b
  | [], [], _, _ => rfl
  | [], y :: b, _, h => by cases h
  | x :: a, [], _, h => by cases h
  | x :: a, y :: b, hf, h => by
    rw [List.map_cons, List.map_cons] at h
    injection h with h1 h2
    rw [hf x (by simp) y (by simp) h1, map_inj f a b (fun x hx y hy => hf x (List.mem_cons_of_mem _ hx) y (List.mem_cons_of_mem _ hy)) h2]
theorem ldI_inj {r : Race} {l : List Sw} {t s : Int} (h : ldI (ldL r t l) = ldI (ldL r s l)) : ldL r t l = ldL r s l := by
  refine map_inj _ _ _ (fun x hx y hy e => ?_) h
  have h1 := ldL_at hx
  have h2 := ldL_at hy
  have e' : x.2 = y.2 := by omega
  rw [e', h2] at h1
  injection h1 with h1
  exact Prod.ext h1.symm e'
theorem ldN_inj {r : Race} {l : List Sw} {t s : Int} (h0 : fieldErr r l = 0) (h : ldN (ldL r t l) = ldN (ldL r s l)) : ldL r t l = ldL r s l := by
  refine map_inj _ _ _ (fun x hx y hy e => ?_) h
  have h1 := ldL_at hx
  have h2 := ldL_at hy
  have e' := field_inj h0 _ _ _ _ h1 h2 e
  rw [e', h2] at h1
  injection h1 with h1
  exact Prod.ext h1.symm e'
/-- who leads at a moment -/
def ldT (r : Race) (l : List Sw) (t : Nat) : List (Sw × Nat) := ldL r t l
open Classical in
noncomputable def phL (r : Race) (l : List Sw) (n : Nat) : List (Nat × Nat × List (Sw × Nat)) := (phR (ldT r l) n).reverse
def phD (y : Nat × Nat × List (Sw × Nat)) : Int × Int × List ByteArray := (y.1, y.2.1, ldN y.2.2)
noncomputable def phDs (r : Race) (l : List Sw) (n : Nat) : List (Int × Int × List ByteArray) := (phL r l n).map phD
theorem phDs_zero (r : Race) (l : List Sw) : phDs r l 0 = [] := rfl
theorem phDs_one (r : Race) (l : List Sw) : phDs r l 1 = [((0 : Int), (1 : Int), ldN (ldT r l 0))] := rfl
theorem phDs_new {r : Race} {l : List Sw} {t : Nat} (h : ldT r l (t + 1) ≠ ldT r l t) : phDs r l (t + 2) = phDs r l (t + 1) ++ [(((t + 1 : Nat) : Int), ((t + 1 : Nat) : Int) + 1, ldN (ldT r l (t + 1)))] := by
  unfold phDs phL
  classical
  rw [phR_new h, List.reverse_cons, List.map_append]
  rfl
theorem phDs_same {r : Race} {l : List Sw} {t : Nat} (h : ldT r l (t + 1) = ldT r l t) : ∃ a P, phDs r l (t + 1) = P ++ [(a, ((t + 1 : Nat) : Int), ldN (ldT r l t))] ∧ phDs r l (t + 2) = P ++ [(a, ((t + 1 : Nat) : Int) + 1, ldN (ldT r l t))] := by
  unfold phDs phL
  classical
  obtain ⟨a, P, hP⟩ := phR_last (ldT r l) t
  refine ⟨a, (P.reverse).map phD, ?_, ?_⟩
  · rw [hP, List.reverse_cons, List.map_append]; rfl
  · rw [phR_same hP h, List.reverse_cons, List.map_append, h]; rfl
theorem phDs_len (r : Race) (l : List Sw) (n : Nat) : (phDs r l n).length ≤ n := by
  unfold phDs phL
  classical
  rw [List.length_map, List.length_reverse]
  exact phR_len _ n
/-- phases in memory, told by their data -/
def PhIs (r : Race) (l : List Sw) (t : Nat) (P : List Ph) : Prop := P.map Ph.dat = phDs r l t
theorem PhIs.len {r : Race} {l : List Sw} {t : Nat} {P : List Ph} (h : PhIs r l t P) : P.length ≤ t := by
  have := congrArg List.length h
  rw [List.length_map] at this
  rw [this]
  exact phDs_len r l t
theorem PhIs.zero (r : Race) (l : List Sw) : PhIs r l 0 [] := rfl
theorem PhIs.one (r : Race) (l : List Sw) (A : Option Addr) (n c : Nat) : PhIs r l 1 [⟨0, 1, A, n, c, ldN (ldT r l 0)⟩] := rfl
theorem PhIs.new {r : Race} {l : List Sw} {t : Nat} {P : List Ph} (h : PhIs r l (t + 1) P) (hne : ldT r l (t + 1) ≠ ldT r l t) (A : Option Addr) (n c : Nat) : PhIs r l (t + 2) (P ++ [⟨((t + 1 : Nat) : Int), ((t + 1 : Nat) : Int) + 1, A, n, c, ldN (ldT r l (t + 1))⟩]) := by
  unfold PhIs at *
  rw [phDs_new hne, List.map_append, h]; rfl
/-- there is a last phase: who leads now -/
theorem PhIs.last {r : Race} {l : List Sw} {t : Nat} {P : List Ph} (h : PhIs r l (t + 1) P) : ∃ P' y, P = P' ++ [y] ∧ y.who = ldN (ldT r l t) ∧ (ldT r l (t + 1) = ldT r l t → PhIs r l (t + 2) (P' ++ [{ y with t := ((t + 1 : Nat) : Int) + 1 }])) := by
  unfold PhIs at *
  classical
  obtain ⟨a, Q, hP⟩ := phR_last (ldT r l) t
  have e1 : phDs r l (t + 1) = (Q.reverse).map phD ++ [((a : Int), ((t + 1 : Nat) : Int), ldN (ldT r l t))] := by
    unfold phDs phL
    rw [hP, List.reverse_cons, List.map_append]; rfl
  rw [e1] at h
  have hn : P ≠ [] := by rintro rfl; simp at h
  obtain ⟨P', y, rfl⟩ : ∃ P' y, P = P' ++ [y] := ⟨P.dropLast, P.getLast hn, (List.dropLast_concat_getLast hn).symm⟩
  rw [List.map_append, List.map_cons, List.map_nil] at h
  obtain ⟨h1, h2⟩ := List.append_inj' h rfl
  injection h2 with h2 _
  unfold Ph.dat at h2
  injection h2 with h3 h4
  injection h4 with h4 h5
  refine ⟨P', y, rfl, h5, fun he => ?_⟩
  unfold phDs phL
  rw [phR_same hP he, List.reverse_cons, List.map_append, List.map_append, h1, he]
  unfold Ph.dat phD
  simp [h3, h5]
  omega
end Go.Proofs.YtdbfcneeiiialaaDoor
