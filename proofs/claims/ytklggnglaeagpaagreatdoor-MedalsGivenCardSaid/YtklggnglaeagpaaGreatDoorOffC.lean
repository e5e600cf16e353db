import Derived.Test.YtklggnglaeagpaaGreatDoorGrpS
import Derived.Test.YtklggnglaeagpaaGreatDoorSeedM
import Derived.Test.YtklggnglaeagpaaGreatDoorDraws
import Derived.Laws.AppendOwnNone
/- heat.SwimOff, tumbref1.SwimOffOf: the names of those who swim again. -/
namespace Go.Proofs.YtklggnglaeagpaaGreatDoor
open Go.RowKit Go.Shelf Go.Lib Go.Sort
set_option linter.unusedVariables false

/-- names that lie in a row of slices -/
structure Nx where
  A : Option Addr
  c : Nat
  ids : List ByteArray
def nxE (x : Nx) : List Value := [.slice x.A x.ids.length x.c]
theorem nxE_len : ∀ x, (nxE x).length = 1 := fun _ => rfl
def RNx (w : World) (A : Option Addr) (n : Nat) (L : List Nx) : Prop := RN 1 nxE 97 w A n L ∧ ∀ x ∈ L, RS 9 w x.A x.ids.length x.ids ∧ (x.A = none → x.c = 0)
theorem RNx.below {w w' : World} {A : Option Addr} {n : Nat} {L : List Nx} (h : RNx w A n L) (B : Below w.heap.size w w') : RNx w' A n L := ⟨h.1.below B, fun x hx => ⟨(h.2 x hx).1.below B, (h.2 x hx).2⟩⟩
theorem RNx_at {w : World} {A : Option Addr} {n : Nat} {L : List Nx} (h : RNx w A n L) {k : Nat} (hk : k < n) : ∃ b off x, A = some ⟨b, off, none⟩ ∧ b < w.heap.size ∧ L[k]? = some x ∧ w.cell? ⟨b, off + k, none⟩ = some (.slice x.A x.ids.length x.c) ∧ RS 9 w x.A x.ids.length x.ids ∧ (x.A = none → x.c = 0) := by
  obtain ⟨b, off, x, hA, hb, hx, hc⟩ := h.1.at_ hk
  exact ⟨b, off, x, hA, hb, hx, by simpa using hc 0 _ rfl, h.2 x (List.mem_of_getElem? hx)⟩
theorem info_names : (Tryz.prog.info? 97).map (fun i => (i.zero, i.size, i.bytes)) = some (some (.slice none 0 0), 1, 24) := by kernel_rfl

theorem keep_ownN {w w' : World} {B n size : Nat} {e : TypeId} {u : Value} {xs : List Value} (h : w.ownsRow B e size u n xs) (hg : w.grownBy w' u.ownBlock) : Keep e w w' := by
  intro b cs e' fz hne hb
  refine (hg.block b (lt_of_heap hb) (fun e0 => ?_)).trans hb
  rcases h.2 with ⟨rfl, _⟩ | ⟨g, cap, cur, rfl, _, hg', _⟩
  · simp [Value.ownBlock] at e0
  · simp only [Value.ownBlock, Option.some.injEq] at e0
    subst e0
    rw [hg'] at hb
    injection hb with hb
    injection hb with _ h3
    exact hne h3.symm
/-- rows of names under way -/
structure NsK (w : World) (u : Value) (L : List Nx) (wx : World) : Prop where
  o : wx.ownsRow w.heap.size 97 1 u L.length (L.flatMap nxE)
  r : ∀ x ∈ L, RS 9 wx x.A x.ids.length x.ids ∧ (x.A = none → x.c = 0)
  bel : Below w.heap.size w wx
section
variable {w wx w' : World} {u v' : Value} {L : List Nx} {x : Nx}
theorem NsK.start (B : Below w.heap.size w wx) : NsK w (.slice none 0 0) [] wx := ⟨World.ownsRow_nil _ _ _ _, (fun x h => by cases h), B⟩
theorem NsK.below (h : NsK w u L wx) (B : Below wx.heap.size wx w') : NsK w u L w' := ⟨own_below h.o B, fun x hx => ⟨(h.r x hx).1.below B, (h.r x hx).2⟩, below_next h.bel B⟩
theorem NsK.app (h : NsK w u L wx) (hx : RS 9 wx x.A x.ids.length x.ids) (hxc : x.A = none → x.c = 0) (ho : w'.ownsRow w.heap.size 97 1 v' (L.length + 1) (L.flatMap nxE ++ nxE x)) (hg : wx.grownBy w' u.ownBlock) : NsK w v' (L ++ [x]) w' := by
  have hk := keep_ownN h.o hg
  refine ⟨by rw [List.length_append, List.flatMap_append, List.flatMap_singleton]; exact ho, fun y hy => ?_, below_own h.bel h.o hg h.bel.size (Nat.le_refl _)⟩
  rcases List.mem_append.1 hy with hy | hy
  · exact ⟨(h.r y hy).1.keep (by decide) hk, (h.r y hy).2⟩
  · obtain rfl := List.mem_singleton.1 hy
    exact ⟨hx.keep (by decide) hk, hxc⟩
theorem NsK.fin {A : Option Addr} {c : Nat} (h : NsK w (.slice A L.length c) L wx) (hb : L.length ≤ 140737488355328) : RNx wx A L.length L := ⟨RN.of_own nxE_len h.o rfl hb, h.r⟩
end
theorem RN.mid {α : Type} {size : Nat} {enc : α → List Value} {e : TypeId} {w : World} {b n lo hi : Nat} {l : List α} (h : RN size enc e w (some ⟨b, 0, none⟩) n l) (h0 : lo ≤ hi) (h1 : hi ≤ n) : RN size enc e w (some ⟨b, lo * size, none⟩) (hi - lo) ((l.drop lo).take (hi - lo)) := by
  have hl := h.len
  refine ⟨by rw [List.length_take, List.length_drop]; omega, by have := h.2.1; omega, fun hp => ?_⟩
  obtain ⟨b', o', cs, fz, hA, hb, hc⟩ := h.2.2 (by omega)
  injection hA with hA
  injection hA with e1 e2
  subst e1 e2
  refine ⟨b, lo * size, cs, fz, rfl, hb, fun k x hx i u hu => ?_⟩
  have hk : k < hi - lo := by have := lt_of_at hx; rw [List.length_take] at this; omega
  rw [List.getElem?_take_of_lt hk, List.getElem?_drop] at hx
  have := hc (lo + k) x hx i u hu
  rw [show 0 + (lo + k) * size + i = lo * size + k * size + i by rw [Nat.add_mul]; omega] at this
  exact this
def CapN (A : Option Addr) (n c : Nat) : Prop := (A = none ∧ n = 0 ∧ c = 0) ∨ ∃ b, A = some ⟨b, 0, none⟩ ∧ n ≤ c
theorem capN_own {w : World} {base : Nat} {e : TypeId} {size n c : Nat} {A : Option Addr} {xs : List Value} (h : w.ownsRow base e size (.slice A n c) n xs) : CapN A n c := by
  rcases h.2 with ⟨h9, h0⟩ | ⟨g9, cap, cur, hv9, h1, h2, h3, h4⟩
  · injection h9 with e1 e2 e3
    exact .inl ⟨e1, h0, e3⟩
  · injection hv9 with e1 e2 e3
    exact .inr ⟨g9, e1, by omega⟩
theorem capN_none {A : Option Addr} {n c : Nat} (h : CapN A n c) : A = none → c = 0 := by
  rcases h with ⟨_, _, h⟩ | ⟨b, h, _⟩
  · exact fun _ => h
  · rw [h]; exact fun e => by cases e
/-- the names of a group -/
def nmsOf (L : List Sd) (g : Nat × Nat) : List ByteArray := ((L.drop g.1).take (g.2 - g.1)).map Sd.who
def offV (f : Fl) (L : List Sd) : List (List ByteArray) := (grpV f L).map (nmsOf L)
theorem grpV_len (f : Fl) (L : List Sd) : (grpV f L).length ≤ L.length := by have := grpL_len f L 0; unfold grpV; omega
def RetOff (w : World) (V : List (List ByteArray)) (u : Value) (w' : World) : Prop := ∃ (A : Option Addr) (c : Nat) (L : List Nx), u = .slice A L.length c ∧ RNx w' A L.length L ∧ CapN A L.length c ∧ L.map Nx.ids = V ∧ Below w.heap.size w w'
end Go.Proofs.YtklggnglaeagpaaGreatDoor

/- tumbref1.SwimOffOf; equality of rows of names. -/
namespace Go.Proofs.YtklggnglaeagpaaGreatDoor
open Go.RowKit Go.Shelf Go.Lib Go.Sort
set_option linter.unusedVariables false

theorem cls_mid {f : Fl} (hf : FlOk f) {i j k : Nat} (h1 : i ≤ j) (h2 : j ≤ k) (h : cls f k = cls f i) : cls f j = cls f i := by
  obtain ⟨⟨p0, _⟩, _, p4, _⟩ := hf
  unfold cls at *
  have q1 : (i : Int) / f.sz ≤ (j : Int) / f.sz := Int.ediv_le_ediv (by omega) (by omega)
  have q2 : (j : Int) / f.sz ≤ (k : Int) / f.sz := Int.ediv_le_ediv (by omega) (by omega)
  have q0 : 0 ≤ (i : Int) / f.sz := Int.ediv_nonneg (by omega) (by omega)
  generalize f.sz * f.mn = m at *
  generalize (i : Int) / f.sz = a at *
  generalize (j : Int) / f.sz = b at *
  generalize (k : Int) / f.sz = c at *
  split at h <;> split at h <;> (try split at h) <;> (try split at h) <;> split <;> (try split) <;> (try split) <;> (try split) <;> omega
/-- whether some of a run are in another final than its first one -/
def apartN (f : Fl) (i : Nat) : Nat → Bool
  | 0 => false
  | m + 1 => apartN f i m || decide (cls f (i + m) ≠ cls f i)
theorem apartN_same {f : Fl} {i : Nat} : ∀ m : Nat, (∀ j, j < m → cls f (i + j) = cls f i) → apartN f i m = false
  | 0, _ => rfl
  | m + 1, h => by
    unfold apartN
    rw [apartN_same m (fun j hj => h j (by omega)), h m (by omega)]
    simp
theorem apartN_end {f : Fl} (hf : FlOk f) {i e : Nat} (h : i < e) : apartN f i (e - i) = decide (cls f i ≠ cls f (e - 1)) := by
  by_cases hc : cls f (e - 1) = cls f i
  · rw [apartN_same _ (fun j hj => cls_mid hf (by omega) (show i + j ≤ e - 1 by omega) hc), hc]
    simp
  · obtain ⟨m, rfl⟩ : ∃ m, e = i + m + 1 := ⟨e - i - 1, by omega⟩
    rw [show i + m + 1 - i = m + 1 by omega]
    rw [show i + m + 1 - 1 = i + m by omega] at hc ⊢
    unfold apartN
    have hc' : ¬ cls f i = cls f (i + m) := fun h => hc h.symm
    simp [hc, hc']
theorem apartN_step (f : Fl) (i q : Nat) (h : i ≤ q) : apartN f i (q + 1 - i) = (apartN f i (q - i) || decide (cls f q ≠ cls f i)) := by
  rw [show q + 1 - i = (q - i) + 1 by omega]
  show (apartN f i (q - i) || decide (cls f (i + (q - i)) ≠ cls f i)) = _
  rw [show i + (q - i) = q by omega]
/-- the names from i on, before q -/
def nmTo (L : List Sd) (i q : Nat) : List ByteArray := nmsOf L (i, q)
theorem nmTo_step {L : List Sd} {i q : Nat} {x : Sd} (hx : L[q]? = some x) (h : i ≤ q) : nmTo L i (q + 1) = nmTo L i q ++ [x.who] := by
  unfold nmTo nmsOf
  dsimp only
  rw [show q + 1 - i = (q - i) + 1 by omega, List.take_add_one, List.getElem?_drop, show i + (q - i) = q by omega, hx, List.map_append]
  rfl
theorem nmTo_len {L : List Sd} {i q : Nat} (h : i ≤ q) (hq : q ≤ L.length) : (nmTo L i q).length = q - i := by
  unfold nmTo nmsOf
  dsimp only
  rw [List.length_map, List.length_take, List.length_drop]
  omega
end Go.Proofs.YtklggnglaeagpaaGreatDoor

/- Equality of rows of names; the seeds of a swim-off; names joined. -/
namespace Go.Proofs.YtklggnglaeagpaaGreatDoor
open Go.RowKit Go.Shelf Go.Lib Go.Sort
set_option linter.unusedVariables false

theorem equalS3_c (A1 A2 : Option Addr) (n c m d : Nat) (l : List ByteArray) (w : World) (h1 : RS 9 w A1 n l) (h2 : RS 9 w A2 m l) :
    Calls Tryz.prog 99 #[.slice A1 n c, .slice A2 m d] w fun e w' => e = .returned (.bool true) ∧ Below w.heap.size w w' := by
  have hn := h1.len
  have hm := h2.len
  have b1 := h1.bd
  obtain rfl : n = m := hn.symm.trans hm
  rcases Nat.eq_zero_or_pos n with h0 | hp
  · subst h0
    exact (Tryz.slices_Equal_string_empty A1 A2 c 0 d w (by omega)).mono fun _ _ ⟨he, hw⟩ => ⟨he, by rw [hw]; exact Below.refl _ _⟩
  · obtain ⟨b1', o1, rfl, hc1⟩ := shelfS h1 hp
    obtain ⟨b2', o2, rfl, hc2⟩ := shelfS h2 hp
    refine (Tryz.slices_Equal_string b1' o1 n c b2' o2 n d l l w (by omega) (by omega) (by omega) (by omega) hc1 hc2).mono fun _ _ ⟨he, q, hw⟩ => ⟨?_, by rw [hw]; exact below_drewN (Below.refl _ _) q⟩
    rw [he]; simp
theorem equalNx_c (A1 A2 : Option Addr) (n c m d : Nat) (L1 L2 : List Nx) (w : World) (h1 : RNx w A1 n L1) (h2 : RNx w A2 m L2) (he : L1.map Nx.ids = L2.map Nx.ids) :
    Calls Tryz.prog 97 #[.slice A1 n c, .slice A2 m d, .func (.func 99) #[] #[]] w fun e w' => e = .returned (.bool true) ∧ Below w.heap.size w w' := by
  have hnm : n = m := by
    have e1 := h1.1.len
    have e2 := h2.1.len
    have e3 := congrArg List.length he
    rw [List.length_map, List.length_map] at e3
    omega
  subst hnm
  have b1 := h1.1.bd
  have hR1 := Lib.hid (fun W B => h1.below (w' := W) B)
  have hR2 := Lib.hid (fun W B => h2.below (w' := W) B)
  have he' := Lib.hid he
  clear h1 h2 he
  go_enter Tryz.func97, Tryz.ntmps97
  go_wp2_with fail
  go_loopw [7, 8, 9, 17] (fun _ _ _ i wr => ∃ k : Nat, k ≤ n ∧ i = .int .i64 k ∧ Below w.heap.size w wr) (fun _ _ _ i _ => n - (intOf i).toNat)
  case atStart => exact ⟨0, Nat.zero_le _, rfl, Below.refl _ _⟩
  case round =>
    rename World => wr
    obtain ⟨k, hk, rfl, hB⟩ := hrel
    by_cases hlt : k < n
    · have hlti : (k : Int) < n := by omega
      obtain ⟨b, off, x, rfl, hbl, hx, c0, rx, _⟩ := RNx_at (hR1.out _ hB) hlt
      obtain ⟨b', off', y, rfl, hbl', hy, d0, ry, _⟩ := RNx_at (hR2.out _ hB) hlt
      have hxy : x.ids = y.ids := by
        have h9 := congrArg (fun l => l[k]?) he'.out
        simp only [List.getElem?_map, hx, hy, Option.map_some, Option.some.injEq] at h9
        exact h9
      obtain ⟨A, cc, ids⟩ := x
      obtain ⟨A', cc', ids'⟩ := y
      dsimp only at *
      subst hxy
      have hs := Lib.hid (equalS3_c A A' ids.length cc ids.length cc' ids wr rx ry)
      clear hx hy rx ry
      generalize ids.length = q at *
      go_wp2_with fail
      refine hs.out.mono ?_; rintro e w5 ⟨rfl, B5⟩
      have hB5 := below_next hB B5
      go_wp2
      go_roundw
      case rel => exact ⟨k + 1, by omega, by go_num, hB5⟩
      case measure => simp [intOf]; omega
    · obtain rfl : k = n := by omega
      go_wp2
      go_ret
      exact ⟨rfl, hB⟩
theorem growStr_c (n : Nat) (w : World) (h0 : 0 < n) (hn : n ≤ 1000000) :
    Calls Tryz.prog 341 #[.slice none 0 0, .int .i64 n] w fun e w' => ∃ A c, e = .returned (.slice A 0 c) ∧ w'.ownsRow w.heap.size 9 1 (.slice A 0 c) 0 [] ∧ Below w.heap.size w w' := by
  have h1 : ¬ ((n : Int) < 0) := by omega
  have h2 : (0 : Int) < (n : Int) := by omega
  have h3 : IntKind.i64.wrap ((n : Int)) = (n : Int) := IntWalk.i64_in _ (by omega)
  go_enter Tryz.func341, Tryz.ntmps341
  go_wp2_with (at_builtin; refine wpList_zerosS rfl (.tmp 20) (.tmp 21) 97 3 rfl Tryz.underlying97 Tryz.underlying3 info_str n h0 (by omega) hn (by omega) (by rfl) (by rfl) ?_; intro cap hc1 hc2)
  go_ret
  refine ⟨_, cap, rfl, ⟨rfl, .inr ⟨w.heap.size, cap, _, rfl, Nat.le_refl _, heap_alloc_new w.drew _, Nat.zero_le _, hc2, ?_, by simp⟩⟩, below_drewN (below_new w _) 1⟩
  rw [Array.size_append, size_zeroCells, size_zeroCells]
  show n * 1 + (cap - n) * 1 = cap * 1
  omega
theorem growStr0_c (w : World) :
    Calls Tryz.prog 341 #[.slice none 0 0, .int .i64 0] w fun e w' => ∃ A c, e = .returned (.slice A 0 c) ∧ w'.ownsRow w.heap.size 9 1 (.slice A 0 c) 0 [] ∧ Below w.heap.size w w' := by
  go_enter Tryz.func341, Tryz.ntmps341
  go_wp2
  go_ret
  exact ⟨none, 0, rfl, World.ownsRow_nil _ _ _ _, Below.refl _ _⟩
theorem growStrA_c (n : Nat) (w : World) (hn : n ≤ 1000000) :
    Calls Tryz.prog 341 #[.slice none 0 0, .int .i64 n] w fun e w' => ∃ A c, e = .returned (.slice A 0 c) ∧ w'.ownsRow w.heap.size 9 1 (.slice A 0 c) 0 [] ∧ Below w.heap.size w w' := by
  rcases Nat.eq_zero_or_pos n with h | h
  · subst h; exact growStr0_c w
  · exact growStr_c n w h hn
theorem str_src {w : World} {A : Option Addr} {n : Nat} {l : List ByteArray} (h : RS 9 w A n l) (hp : 0 < n) : ∃ b off, A = some ⟨b, off, none⟩ ∧ ∀ j u, (l.map Value.string)[j]? = some u → w.cell? ⟨b, off + j, none⟩ = some u := by
  obtain ⟨b, off, hA, hc⟩ := shelfS h hp
  refine ⟨b, off, hA, fun j u hu => ?_⟩
  rw [List.getElem?_map] at hu
  cases hx : l[j]? with
  | none => rw [hx] at hu; cases hu
  | some x =>
    rw [hx] at hu
    obtain rfl := Option.some.inj hu
    rw [hc j (lt_of_at hx), List.getD_eq_getElem?_getD, hx]
    rfl
theorem strs_one (l : List ByteArray) : ∀ u ∈ l.map Value.string, u.oneCell' = true := by
  intro u hu
  obtain ⟨x, _, rfl⟩ := List.mem_map.1 hu
  rfl
def lenTo (L : List Nx) (k : Nat) : Nat := ((L.take k).flatMap Nx.ids).length
theorem lenTo_step {L : List Nx} {k : Nat} {x : Nx} (h : L[k]? = some x) : lenTo L (k + 1) = lenTo L k + x.ids.length := by
  unfold lenTo
  rw [List.take_add_one, h, List.flatMap_append, List.length_append]
  simp
theorem lenTo_le (L : List Nx) (M : Nat) (h : ∀ x ∈ L, x.ids.length ≤ M) : ∀ k, lenTo L k ≤ k * M
  | 0 => by simp [lenTo]
  | k + 1 => by
    have h1 := lenTo_le L M h k
    rw [Nat.succ_mul]
    cases hx : L[k]? with
    | none =>
      unfold lenTo at *
      rw [List.take_add_one, hx]
      simpa using Nat.le_trans h1 (Nat.le_add_right _ _)
    | some x =>
      rw [lenTo_step hx]
      have := h x (List.mem_of_getElem? hx)
      omega
theorem lenTo_bd {L : List Nx} {n : Nat} (h : ∀ x ∈ L, x.ids.length ≤ 300) (hn : n ≤ 300) (k : Nat) (hk : k ≤ n) : lenTo L k ≤ 90000 := by
  have h1 := lenTo_le L 300 h k
  generalize lenTo L k = p at *
  omega
set_option maxHeartbeats 3200000 in
set_option maxRecDepth 100000 in
/-- names joined -/
theorem concatN_c (A : Option Addr) (n c : Nat) (L : List Nx) (w : World) (h : RNx w A n L) (hn : n ≤ 300) (hM : ∀ x ∈ L, x.ids.length ≤ 300) :
    Calls Tryz.prog 266 #[.slice A n c] w fun e w' => ∃ A' c', e = .returned (.slice A' (L.flatMap Nx.ids).length c') ∧ RS 9 w' A' (L.flatMap Nx.ids).length (L.flatMap Nx.ids) ∧ Below w.heap.size w w' := by
  have hR := Lib.hid (fun W B => h.below (w' := W) B)
  have hl := Lib.hid h.1.len
  have hMx := Lib.hid hM
  have hLt := Lib.hid (lenTo_bd hM hn)
  have hTot := Lib.hid (show lenTo L n = (L.flatMap Nx.ids).length by unfold lenTo; rw [List.take_of_length_le (by rw [h.1.len]; exact Nat.le_refl _)])
  have hS := Lib.hid (fun k x (hx : L[k]? = some x) => lenTo_step hx)
  clear h hM
  go_enter Tryz.func266, Tryz.ntmps266
  go_wp2_with fail
  go_loopw [3, 5, 11] (fun sv _ iv wr => ∃ k : Nat, k ≤ n ∧ iv = .int .i64 k ∧ sv = .int .i64 (lenTo L k) ∧ Below w.heap.size w wr) (fun _ _ iv _ => n - (intOf iv).toNat)
  case atStart => exact ⟨0, Nat.zero_le _, rfl, rfl, Below.refl _ _⟩
  case round =>
    rename World => wr
    obtain ⟨k, hk, rfl, rfl, hB⟩ := hrel
    by_cases hlt : k < n
    · obtain ⟨b, off, x, rfl, hbl, hx, c0, _, _⟩ := RNx_at (hR.out _ hB) hlt
      have hb2 := hLt.out (k + 1) hlt
      rw [hS.out k x hx] at hb2
      have hst' := Lib.hid (hS.out k x hx)
      clear hx
      obtain ⟨A9, c9, ids⟩ := x
      dsimp only at *
      generalize ids.length = q at *
      generalize lenTo L k = p at *
      have hq1 : ¬ ((p : Int) + (q : Int) < 0) := by omega
      have e1 : IntKind.i64.wrap ((p : Int) + (q : Int)) = (p : Int) + (q : Int) := IntWalk.i64_in _ (by omega)
      go_wp2
      go_roundw
      case rel => exact ⟨k + 1, by omega, by go_num, by rw [hst'.out, Int.natCast_add], hB⟩
      case measure => simp [intOf]; omega
    · obtain rfl : k = n := by omega
      have hT := hLt.out k (Nat.le_refl _)
      have hG := Lib.hid (growStrA_c (lenTo L k) wr (Nat.le_trans hT (by decide)))
      go_wp2_with fail
      refine hG.out.mono ?_; rintro e w3 ⟨GA, gc, rfl, hown, B3⟩
      have hown0 := own_mono hown hB.size
      have hB3 := below_next hB B3
      clear hown B3 hB hG
      go_wp2_with fail
      go_loopw [6, 8, 27] (fun u _ iv wr => ∃ j : Nat, j ≤ k ∧ iv = .int .i64 j ∧ wr.ownsRow w.heap.size 9 1 u (lenTo L j) (((L.take j).flatMap Nx.ids).map Value.string) ∧ Below w.heap.size w wr) (fun _ _ iv _ => k - (intOf iv).toNat)
      case atStart => exact ⟨0, Nat.zero_le _, rfl, hown0, hB3⟩
      case round =>
        clear hown0 hB3
        rename World => wx
        obtain ⟨j, hj, rfl, hown, hB⟩ := hrel
        by_cases hlj : j < k
        · obtain ⟨b, off, x, rfl, hbl, hx, c0, rx, hcx⟩ := RNx_at (hR.out _ hB) hlj
          have hst' := Lib.hid (hS.out j x hx)
          have hb1 := hLt.out j hj
          have hb3 := hLt.out (j + 1) hlj
          rw [hst'.out] at hb3
          have hb4 : lenTo L j + x.ids.length ≤ 1000000 := Nat.le_trans hb3 (by decide)
          clear hb3 hb1
          have hfl := Lib.hid (show ((L.take (j + 1)).flatMap Nx.ids).map Value.string = ((L.take j).flatMap Nx.ids).map Value.string ++ x.ids.map Value.string by
            rw [List.take_add_one, hx, List.flatMap_append, List.map_append]; simp)
          clear hx
          obtain ⟨A9, c9, ids⟩ := x
          dsimp only at *
          have hz := hB.size
          go_wp2_with (at_builtin; refine wpList_appR rfl (.tmp 31) (.tmp 32) 97 rfl Tryz.underlying97 info_str rfl (by omega) (by omega) hown rfl hcx (str_src rx) rfl (by rw [List.length_map, Nat.mul_one]) (strs_one ids) hb4 hz ?_; intro v4 w4 hown4 hg4)
          have hB4 := below_own hB hown hg4 hz (Nat.le_refl _)
          go_wp2
          go_roundw
          case rel => exact ⟨j + 1, by omega, by go_num, by rw [hst'.out, hfl.out]; exact hown4, hB4⟩
          case measure => simp [intOf]; omega
        · obtain rfl : j = k := by omega
          obtain ⟨A9, c9, rfl⟩ := own_shape hown
          have hfin : RS 9 wx A9 (L.flatMap Nx.ids).length (L.flatMap Nx.ids) := by
            rw [List.take_of_length_le (by rw [hl.out]; exact Nat.le_refl _), hTot.out] at hown
            rw [hTot.out] at hT
            exact R1.of_own hown (Nat.le_trans hT (by decide))
          rw [hTot.out]
          clear hown
          go_wp2
          go_ret
          exact ⟨A9, c9, rfl, hfin, hB⟩
end Go.Proofs.YtklggnglaeagpaaGreatDoor
