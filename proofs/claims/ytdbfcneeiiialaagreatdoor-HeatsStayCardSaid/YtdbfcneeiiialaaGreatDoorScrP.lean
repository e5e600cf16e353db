import Derived.Test.YtdbfcneeiiialaaGreatDoorStaN
import Derived.Test.YtdbfcneeiiialaaGreatDoorMkReg
import Derived.Test.YtdbfcneeiiialaaGreatDoorSortB
import Derived.Laws.IdiomCopy
import Derived.Deep.QuietTactic
import Derived.BigQuiet
import Derived.BigGuardPart
import Derived.BigRegion
/- slices.DeleteFunc of api.Start in a row of the call's own, by the closure tumbref1.ScratchOf$1. Printed by wip/gendelx.py. -/
namespace Go.Proofs.YtdbfcneeiiialaaGreatDoor
open Go.RowKit Go.Shelf Go.Lib Go.Sort
set_option linter.unusedVariables false

theorem own_takeSp {w : World} {base : Nat} {e : TypeId} {size g n c k : Nat} {xs : List Value} (h : w.ownsRow base e size (.slice (some ⟨g, 0, none⟩) n c) n xs) (hk : k ≤ n) : w.ownsRow base e size (.slice (some ⟨g, 0, none⟩) k c) k (xs.take (k * size)) := by
  have hl := h.1
  have hm : k * size ≤ n * size := Nat.mul_le_mul_right _ hk
  refine ⟨by rw [List.length_take]; omega, ?_⟩
  rcases h.2 with ⟨hv, _⟩ | ⟨g', cap, cur, hv, hb, hg, h1, h2, h3, h4⟩
  · cases hv
  · injection hv with q1 q2 q3
    injection q1 with q1
    injection q1 with q1
    subst q1 q3
    refine .inr ⟨g, c, cur, rfl, hb, hg, by omega, h2, h3, ?_⟩
    rw [← h4, List.take_take]
    congr 1
    omega
theorem own_setCellsSp {base : Nat} {e : TypeId} {size g n c : Nat} {xs : List Value} : ∀ (vs : List Value) (o : Nat) (w : World), w.ownsRow base e size (.slice (some ⟨g, 0, none⟩) n c) n xs → n * size ≤ o → (w.setCells g o vs).ownsRow base e size (.slice (some ⟨g, 0, none⟩) n c) n xs ∧ w.grownBy (w.setCells g o vs) (some g)
  | [], _, w, h, _ => ⟨h, grown_refl _ _⟩
  | v :: r, o, w, h, ho => by
    obtain ⟨h1, h2⟩ := h.stored o v
    rw [List.set_eq_of_length_le (by rw [h.1]; exact ho)] at h1
    obtain ⟨h3, h4⟩ := own_setCellsSp r (o + 1) _ h1 (by omega)
    exact ⟨h3, grown_trans h2 h4⟩
theorem flat_takeSp : ∀ (R : List Sp) (i : Nat), (R.flatMap spE).take (i * 3) = (R.take i).flatMap spE
  | _, 0 => by simp
  | [], i + 1 => by simp
  | x :: r, i + 1 => by
    rw [List.take_succ_cons, List.flatMap_cons, List.flatMap_cons, ← flat_takeSp r i, show (i + 1) * 3 = i * 3 + 3 by omega]
    rfl
theorem zc_oneSp (n : Nat) : ∀ v ∈ (Builtin.zeroCells (Value.agg #[.string ⟨#[]⟩, .int .i64 0, .int .i64 0]).cells n).toList, v.oneCell' = true := by
  intro v hv
  unfold Builtin.zeroCells at hv
  rw [Array.toList_map] at hv
  obtain ⟨a, _, rfl⟩ := List.mem_map.1 hv
  show (#[Value.string ⟨#[]⟩, Value.int .i64 0, Value.int .i64 0][a % 3]!).oneCell' = true
  have h : a % 3 < 3 := Nat.mod_lt _ (by decide)
  have h2 : a % 3 = 0 ∨ a % 3 = 1 ∨ a % 3 = 2 := by omega
  rcases h2 with h | h | h <;> rw [h] <;> rfl
theorem own_blkSp {w : World} {base : Nat} {e : TypeId} {size g n c : Nat} {xs : List Value} (h : w.ownsRow base e size (.slice (some ⟨g, 0, none⟩) n c) n xs) : ∃ cur, w.heap[g]? = some (.cells cur e (0, 0)) ∧ cur.size = c * size ∧ n ≤ c := by
  rcases h.2 with ⟨hv, _⟩ | ⟨g', cap, cur, hv, hb, hg, h1, h2, h3, h4⟩
  · cases hv
  · injection hv with q1 q2 q3
    injection q1 with q1
    injection q1 with q1
    subst q1 q3
    exact ⟨cur, hg, h3, h1⟩
theorem run_clearSp {P : Program} (w : World) (t e ty : TypeId) (z : Value) (ht : P.underlying t = some (.slice e)) (hv : ∀ w, (zeroValue e).run P w = .ok z w) (b o n c : Nat) (hn : 0 < n) (h1 : ∀ v ∈ (Builtin.zeroCells z.cells n).toList, v.oneCell' = true)
    (hc : ∀ j, j < (Builtin.zeroCells z.cells n).toList.length → (w.cell? ⟨b, o + j, none⟩).isSome = true) (hf : ∀ j, j < (Builtin.zeroCells z.cells n).toList.length → w.frozen? ⟨b, o + j, none⟩ = false) :
    (Builtin.clear_ #[t] ty #[.slice (some ⟨b, o, none⟩) n c]).run P w = .ok (.tuple #[]) (w.setCells b o (Builtin.zeroCells z.cells n).toList) := by
  have hst := run_storeCells_cells (P := P) b o (Builtin.zeroCells z.cells n).toList 0 w (by simpa using hc) (by simpa using hf) h1
  simp only [Nat.add_zero] at hst
  obtain ⟨m, rfl⟩ : ∃ m, n = m + 1 := ⟨n - 1, by omega⟩
  simp [Builtin.clear_, run_underlying ht, hv, hst]
theorem flat_setSp (R : List Sp) (i : Nat) (x r : Sp) (h : R[i]? = some r) : ((((R.flatMap spE).set (i * 3) (.string x.who)).set (i * 3 + 1) (.int .i64 x.heat)).set (i * 3 + 2) (.int .i64 x.lane)) = (R.set i x).flatMap spE := by
  have e0 := flat_set spE_len R i r ⟨x.who, r.heat, r.lane⟩ 0 (.string x.who) h (by decide) rfl
  have hi := lt_of_at h
  have g0 : (R.set i ⟨x.who, r.heat, r.lane⟩)[i]? = some ⟨x.who, r.heat, r.lane⟩ := List.getElem?_set_self hi
  have e1 := flat_set spE_len _ i _ ⟨x.who, x.heat, r.lane⟩ 1 (.int .i64 x.heat) g0 (by decide) rfl
  rw [List.set_set] at e1
  have g1 : (R.set i ⟨x.who, x.heat, r.lane⟩)[i]? = some ⟨x.who, x.heat, r.lane⟩ := List.getElem?_set_self hi
  have e2 := flat_set spE_len _ i _ x 2 (.int .i64 x.lane) g1 (by decide) rfl
  rw [List.set_set] at e2
  rw [Nat.add_zero] at e0
  rw [e0, e1, e2]
theorem keep_ownSp {w w' : World} {B n size : Nat} {e : TypeId} {u : Value} {xs : List Value} (h : w.ownsRow B e size u n xs) (hg : w.grownBy w' u.ownBlock) : Keep e w w' := by
  intro b cs e' fz hne hb
  refine (hg.block b (lt_of_heap hb) (fun e0 => ?_)).trans hb
  rcases h.2 with ⟨rfl, _⟩ | ⟨g, cap, cur, rfl, _, hg', _⟩
  · simp [Value.ownBlock] at e0
  · simp only [Value.ownBlock, Option.some.injEq] at e0
    subst e0
    rw [hg'] at hb
    injection hb with hb
    injection hb with _ h3
    exact hne h3.symm
def IdxSp (p : Sp → Bool) (l : List Sp) (n : Nat) (i : Int) : Prop := (i = -1 ∧ ∀ x ∈ l, p x = false) ∨ ∃ k : Nat, i = (k : Int) ∧ k < n ∧ (∃ x, l[k]? = some x ∧ p x = true) ∧ ∀ x ∈ l.take k, p x = false
theorem strikeSp (p : Sp → Bool) (R l : List Sp) (i j : Nat) (x : Sp) (hR : R.take i = (l.take j).filter fun y => !p y) (hD : R.drop j = l.drop j) (hij : i ≤ j) (hx : l[j]? = some x) (hl : R.length = l.length) :
    (p x = true → R.take i = (l.take (j + 1)).filter fun y => !p y) ∧ (p x = false → (R.set i x).take (i + 1) = (l.take (j + 1)).filter fun y => !p y) ∧ R.drop (j + 1) = l.drop (j + 1) ∧ (R.set i x).drop (j + 1) = l.drop (j + 1) := by
  have hj := lt_of_at hx
  have ht : (l.take (j + 1)).filter (fun y => !p y) = (l.take j).filter (fun y => !p y) ++ if p x = false then [x] else [] := by
    rw [List.take_add_one, hx, List.filter_append]
    congr 1
    by_cases h : p x = true <;> simp [h]
  have hd : R.drop (j + 1) = l.drop (j + 1) := by
    have h1 : (R.drop j).drop 1 = (l.drop j).drop 1 := by rw [hD]
    rw [List.drop_drop, List.drop_drop] at h1
    exact h1
  refine ⟨fun h => by rw [ht, if_neg (by simp [h]), List.append_nil, hR], fun h => ?_, hd, ?_⟩
  · rw [ht, if_pos h, List.take_add_one, List.getElem?_set_self (by omega), List.take_set_of_le (Nat.le_refl _), hR]
    rfl
  · rw [List.drop_set_of_lt (by omega)]
    exact hd
end Go.Proofs.YtdbfcneeiiialaaGreatDoor

/- slices.Clone of starts; tumbref1.ScratchOf and its closure. -/
namespace Go.Proofs.YtdbfcneeiiialaaGreatDoor
open Go.RowKit Go.Shelf Go.Lib Go.Sort
set_option linter.unusedVariables false

theorem sp_src {w : World} {A : Option Addr} {n : Nat} {l : List Sp} (h : RSp w A n l) (hp : 0 < n) : ∃ b off, A = some ⟨b, off, none⟩ ∧ ∀ j u, (l.flatMap spE)[j]? = some u → w.cell? ⟨b, off + j, none⟩ = some u := by
  obtain ⟨b, off, cs, fz, ha, hb, hc⟩ := h.2.2 hp
  refine ⟨b, off, ha, fun j u hu => ?_⟩
  have hj := lt_of_at hu
  rw [flat_len spE_len] at hj
  obtain ⟨x, hx⟩ := at_of_lt (l := l) (k := j / 3) (by omega)
  have hi : j % 3 < 3 := Nat.mod_lt _ (by decide)
  have e : j = (j / 3) * 3 + j % 3 := by omega
  have hf := flat_atC spE_len l (j / 3) (j % 3) x hx hi
  rw [← e, hu] at hf
  rw [cell_of_row w b _ cs _ fz hb]
  have h9 := hc (j / 3) x hx (j % 3) u hf.symm
  rw [show off + j = off + (j / 3) * 3 + j % 3 by omega]
  exact h9
theorem sp_one (l : List Sp) : ∀ u ∈ l.flatMap spE, u.oneCell' = true := by
  intro u hu
  obtain ⟨x, _, hx⟩ := List.mem_flatMap.1 hu
  simp only [spE, List.mem_cons, List.not_mem_nil, or_false] at hx
  rcases hx with rfl | rfl | rfl <;> rfl
set_option maxRecDepth 100000 in
theorem cloneSp_c (A : Option Addr) (n c : Nat) (l : List Sp) (w : World) (h : RSp w A n l) (hn : n ≤ 1000) :
    Calls Tryz.prog 66 #[.slice A n c] w fun e w' => ∃ A' c', e = .returned (.slice A' n c') ∧ w'.ownsRow w.heap.size 111 3 (.slice A' n c') n (l.flatMap spE) ∧ Below w.heap.size w w' := by
  rcases A with _ | ad
  · have hn0 : n = 0 := by
      rcases Nat.eq_zero_or_pos n with h0 | hp
      · exact h0
      · obtain ⟨b, off, cs, fz, e, _⟩ := h.2.2 hp; cases e
    subst hn0
    have hl : l = [] := List.eq_nil_of_length_eq_zero h.len
    subst hl
    have hnil : ∀ W, (binOp .eql 103 (.slice none 0 c) (.slice none 0 0)).run Tryz.prog W = .ok (.bool true) W := fun W => Go.Lib.run_eql_slice_nil W _ _ none 0 c 0 0 Tryz.underlying103
    go_enter Tryz.func66, Tryz.ntmps66
    go_wp2
    go_ret
    exact ⟨none, 0, rfl, World.ownsRow_nil _ _ _ _, Below.refl _ _⟩
  · have hlen := h.len
    have hB := below_new w (.cells #[] 111)
    have hz : w.heap.size ≤ (w.alloc (.cells #[] 111)).heap.size := by simp
    have hown : (w.alloc (.cells #[] 111)).ownsRow w.heap.size 111 3 (.slice (some ⟨w.heap.size, 0, none⟩) 0 0) 0 ([] : List Value) := ⟨rfl, .inr ⟨w.heap.size, 0, #[], rfl, Nat.le_refl _, heap_alloc_new w _, Nat.le_refl _, Nat.zero_le _, by simp, rfl⟩⟩
    have hs := sp_src (h.below hB)
    have hnil : ∀ W, (binOp .eql 103 (.slice (some ad) n c) (.slice none 0 0)).run Tryz.prog W = .ok (.bool false) W := fun W => Go.Lib.run_eql_slice_nil W _ _ (some ad) n c 0 0 Tryz.underlying103
    go_enter Tryz.func66, Tryz.ntmps66
    go_wp2_with (at_builtin; refine wpList_appR rfl (.tmp 5) (.tmp 6) 103 rfl Tryz.underlying103 info_start rfl (by omega) (by omega) hown rfl (fun e => by cases e) hs rfl (by rw [flat_len spE_len, hlen]) (sp_one l) (by omega) hz ?_; intro v4 w4 hown4 hg4)
    have hB4 := below_own hB hown hg4 hz (Nat.le_refl _)
    rw [List.nil_append, Nat.zero_add] at hown4
    obtain ⟨A9, c9, rfl⟩ := own_shape hown4
    go_wp2
    go_ret
    exact ⟨A9, c9, rfl, hown4, hB4⟩
/-- heats numbered anew -/
def scrG : Int → Int → List Sp → List Sp
  | _, _, [] => []
  | old, hh, x :: l => ⟨x.who, if x.heat ≠ old then hh + 1 else hh, x.lane⟩ :: scrG x.heat (if x.heat ≠ old then hh + 1 else hh) l
theorem scrG_at (old hh : Int) {l : List Sp} {k : Nat} {x : Sp} (h : l[k]? = some x) : scrG old hh (l.drop k) = ⟨x.who, if x.heat ≠ old then hh + 1 else hh, x.lane⟩ :: scrG x.heat (if x.heat ≠ old then hh + 1 else hh) (l.drop (k + 1)) := by rw [drop_at h]; rfl
theorem scrG_len : ∀ (l : List Sp) (old hh : Int), (scrG old hh l).length = l.length
  | [], _, _ => rfl
  | x :: l, old, hh => by unfold scrG; rw [List.length_cons, List.length_cons, scrG_len l]
def scrL (a : List ByteArray) (l : List Sp) : List Sp := scrG 0 0 (l.filter fun y => !Lib.containsS a y.who)
end Go.Proofs.YtdbfcneeiiialaaGreatDoor

/- slices.IndexFunc and slices.ContainsFunc of starts, generic in the closure (its number and what it holds). -/
namespace Go.Proofs.YtdbfcneeiiialaaGreatDoor
open Go.RowKit Go.Shelf Go.Lib Go.Sort
set_option linter.unusedVariables false

set_option maxRecDepth 100000 in
theorem idxSp_c (F : Nat) (hcf : ∀ (args : Array Value) (W : World), (callFunc F args).run Tryz.prog W = .ok (.enter F args) W) (caps : Array Value) (p : Sp → Bool) (A : Option Addr) (n c : Nat) (l : List Sp) (w : World) (h : RSp w A n l) (hP : ∀ (x : Sp), x ∈ l → ∀ W, Below w.heap.size w W → Calls Tryz.prog F (#[.agg (spE x).toArray] ++ caps) W fun e w' => e = .returned (.bool (p x)) ∧ Below W.heap.size W w') :
    Calls Tryz.prog 222 #[.slice A n c, .func (.func F) #[] caps] w fun e w' => ∃ i : Int, e = .returned (.int .i64 i) ∧ ((i = -1 ∧ ∀ x ∈ l, p x = false) ∨ ∃ (k : Nat) (x : Sp), i = k ∧ l[k]? = some x ∧ p x = true) ∧ Below w.heap.size w w' := by
  have hz := Lib.hid hP
  have hR := Lib.hid (fun W B => h.below (w' := W) B)
  have hl := Lib.hid h.len
  have hbd := h.bd
  clear hP h
  go_enter Tryz.func222, Tryz.ntmps222
  go_wp2_with fail
  go_loopw [8] (fun i wr => ∃ k : Nat, k ≤ n ∧ i = .int .i64 k ∧ Below w.heap.size w wr ∧ Hid (∀ x ∈ l.take k, p x = false)) (fun i _ => n - (intOf i).toNat)
  case atStart => exact ⟨0, Nat.zero_le _, rfl, Below.refl _ _, Lib.hid (fun x hx => by simp at hx)⟩
  case round =>
    rename World => wr
    obtain ⟨k, hk, rfl, hB, hF⟩ := hrel
    by_cases hlt : k < n
    · obtain ⟨b, off, x, rfl, hbl, hx, c0, c1, c2⟩ := RSp_at3 (hR.out _ hB) hlt
      have hx' := Lib.hid hx
      have hzx := Lib.hid (hz.out x (List.mem_of_getElem? hx) wr hB)
      obtain ⟨pb, hpb⟩ : ∃ pb, p x = pb := ⟨_, rfl⟩
      rw [hpb] at hzx
      have hpb' := Lib.hid hpb
      obtain ⟨wo, ht, ln⟩ := x
      dsimp only [spE] at *
      clear hx hpb
      cases pb
      · have hF2 := Lib.hid (show ∀ x ∈ l.take (k + 1), p x = false from fun x hx => by
          rw [List.take_add_one, hx'.out] at hx
          rcases List.mem_append.1 hx with hx | hx
          · exact hF.out x hx
          · simp at hx; subst hx; exact hpb'.out)
        clear hF hx' hpb'
        go_wp2_with fail
        refine hzx.out.mono ?_; rintro e w1 ⟨rfl, B1⟩
        have hB1 := below_next hB B1
        go_wp2
        go_roundw
        case rel => exact ⟨k + 1, by omega, by go_num, hB1, hF2⟩
        case measure => simp [intOf]; omega
      · go_wp2_with fail
        refine hzx.out.mono ?_; rintro e w1 ⟨rfl, B1⟩
        have hB1 := below_next hB B1
        go_wp2
        go_ret
        exact ⟨_, rfl, .inr ⟨k, _, rfl, hx'.out, hpb'.out⟩, hB1⟩
    · obtain rfl : k = n := by omega
      have hI := Lib.hid (show ∀ x ∈ l, p x = false from fun x hx => hF.out x (by rw [List.take_of_length_le (by rw [hl.out]; exact Nat.le_refl _)]; exact hx))
      go_wp2
      go_ret
      exact ⟨_, rfl, .inl ⟨rfl, hI.out⟩, hB⟩
theorem hasSp_c (F : Nat) (hcf : ∀ (args : Array Value) (W : World), (callFunc F args).run Tryz.prog W = .ok (.enter F args) W) (caps : Array Value) (p : Sp → Bool) (A : Option Addr) (n c : Nat) (l : List Sp) (w : World) (h : RSp w A n l) (hP : ∀ (x : Sp), x ∈ l → ∀ W, Below w.heap.size w W → Calls Tryz.prog F (#[.agg (spE x).toArray] ++ caps) W fun e w' => e = .returned (.bool (p x)) ∧ Below W.heap.size W w') :
    Calls Tryz.prog 148 #[.slice A n c, .func (.func F) #[] caps] w fun e w' => e = .returned (.bool (l.any p)) ∧ Below w.heap.size w w' := by
  have hI := Lib.hid (idxSp_c F hcf caps p A n c l w h hP)
  clear hP h
  go_enter Tryz.func148, Tryz.ntmps148
  go_wp2_with fail
  refine hI.out.mono ?_; rintro e w1 ⟨i, rfl, hi, B1⟩
  have hi' : Hid (decide (0 ≤ i) = l.any p) := Lib.hid (by
    rcases hi with ⟨rfl, hi⟩ | ⟨k, x, rfl, hx, hp⟩
    · rw [decide_eq_false (by decide), eq_comm, List.any_eq_false]
      intro x hx
      simp [hi x hx]
    · rw [decide_eq_true (by omega), eq_comm, List.any_eq_true]
      exact ⟨_, List.mem_of_getElem? hx, hp⟩)
  clear hi
  go_wp2
  go_ret
  exact ⟨by rw [← hi'.out]; rfl, B1⟩
end Go.Proofs.YtdbfcneeiiialaaGreatDoor

/- heat.checkWho, generic in the closure; the closures of heat.Scratch. -/
namespace Go.Proofs.YtdbfcneeiiialaaGreatDoor
open Go.RowKit Go.Shelf Go.Lib Go.Sort
set_option linter.unusedVariables false

set_option maxHeartbeats 1600000 in
set_option maxRecDepth 100000 in
theorem checkWhoG_c (F : Nat) (hcf : ∀ (args : Array Value) (W : World), (callFunc F args).run Tryz.prog W = .ok (.enter F args) W) (caps : Array Value) (B : Option Addr) (m d : Nat) (of who : List ByteArray) (w : World) (hB : RS 9 w B m who) (hcap : (B = none ∧ m = 0 ∧ d = 0) ∨ ∃ b, B = some ⟨b, 0, none⟩ ∧ m ≤ d) (hP : ∀ s W, Below w.heap.size w W → Calls Tryz.prog F (#[.string s] ++ caps) W fun e w' => e = .returned (.bool (Lib.containsS of s)) ∧ Below W.heap.size W w') :
    Calls Tryz.prog 121 #[.slice B m d, .func (.func F) #[] caps] w fun e w' => e = .returned (.int .i64 (goneErr of who)) ∧ Below w.heap.size w w' := by
  have hl := hB.len
  have hbd := hB.bd
  have hE := Lib.hid (show goneErr of who = if 300 < m then 2 else goneL of [] who by unfold goneErr; rw [hl])
  have hcA := Lib.hid hP
  have hRS := Lib.hid (fun W b => hB.below (w' := W) b)
  have hcB := Lib.hid (fun b k (hk : k ≤ m) (e : B = some ⟨b, 0, none⟩) x W (hW : RS 9 W B m who) => show Calls Tryz.prog 125 #[.slice (some ⟨b, 0, none⟩) k d, .string x] W fun e w' => e = .returned (.bool (Lib.containsS (who.take k) x)) ∧ W = w' from containsN_c _ k d _ x W (RS_takeN (by rw [← e]; exact hW) hk))
  have hGa := Lib.hid (fun k s (h : who[k]? = some s) => goneL_at (of := of) h)
  have hG0 := Lib.hid (fun d => show goneL of d [] = 0 from rfl)
  have hl' := Lib.hid hl
  generalize goneErr of who = E at *
  generalize goneL of = GL at *
  clear hl hP hB
  by_cases hbig : 300 < m
  · obtain rfl : E = 2 := by rw [hE.out, if_pos hbig]
    have q0 : (300 : Int) < (m : Int) := by omega
    clear hE
    go_enter Tryz.func121, Tryz.ntmps121
    go_wp2
    go_ret
    exact ⟨rfl, Below.refl _ _⟩
  have q0 : ¬ (300 : Int) < (m : Int) := by omega
  have hE2 := Lib.hid (show E = GL [] who by rw [hE.out, if_neg hbig])
  clear hE
  go_enter Tryz.func121, Tryz.ntmps121
  go_wp2_with fail
  go_loopw [12] (fun i wr => ∃ k : Nat, k ≤ m ∧ i = .int .i64 k ∧ Below w.heap.size w wr ∧ Hid (GL (who.take k) (who.drop k) = GL [] who)) (fun i _ => m - (intOf i).toNat)
  case atStart => exact ⟨0, Nat.zero_le _, rfl, Below.refl _ _, Lib.hid rfl⟩
  case round =>
    rename World => wr
    obtain ⟨k, hk, rfl, hBe, hG⟩ := hrel
    by_cases hlt : k < m
    · rcases hcap with ⟨rfl, h0, _⟩ | ⟨b, rfl, hmd⟩
      · omega
      obtain ⟨b', off, s, hA, hbl, hs, c0⟩ := (hRS.out _ hBe).at_ hlt
      injection hA with hA
      injection hA with e1 e2
      subst e1 e2
      rw [Nat.zero_add] at c0
      have hst := Lib.hid (show GL [] who = if Lib.containsS of s = true then (if Lib.containsS (who.take k) s = true then 6 else GL (who.take (k + 1)) (who.drop (k + 1))) else 8 by rw [← hG.out, hGa.out k s hs])
      have hcB' := Lib.hid (fun W h => hcB.out b k (by omega) rfl s W h)
      have hcA' := Lib.hid (hcA.out s wr hBe)
      have j0 : (0 : Int) ≤ (k : Int) := by omega
      have j1 : (k : Int) ≤ (d : Int) := by omega
      clear hs hG
      by_cases h1 : Lib.containsS of s = true
      rotate_left
      · obtain rfl : E = 8 := by rw [hE2.out, hst.out, if_neg h1]
        have hd : Lib.containsS of s = false := by simpa using h1
        rw [hd] at hcA'
        clear h1 hd hst hE2
        go_wp2_with fail
        refine hcA'.out.mono ?_; rintro e w1 ⟨rfl, B1⟩
        have hB1 := below_next hBe B1
        go_wp2
        go_ret
        exact ⟨rfl, hB1⟩
      · have hd : Lib.containsS of s = true := h1
        rw [hd] at hcA'
        have hst2 := Lib.hid (show GL [] who = if Lib.containsS (who.take k) s = true then 6 else GL (who.take (k + 1)) (who.drop (k + 1)) by rw [hst.out, if_pos h1])
        clear h1 hd hst
        by_cases h2 : Lib.containsS (who.take k) s = true
        · obtain rfl : E = 6 := by rw [hE2.out, hst2.out, if_pos h2]
          have hd : Lib.containsS (who.take k) s = true := h2
          rw [hd] at hcB'
          clear h2 hd hst2 hE2
          go_wp2_with fail
          refine hcA'.out.mono ?_; rintro e w1 ⟨rfl, B1⟩
          have hB1 := below_next hBe B1
          go_wp2_with fail
          refine (hcB'.out _ (hRS.out _ hB1)).mono ?_; rintro e w2 ⟨rfl, rfl⟩
          clear c0 B1
          go_wp2
          go_ret
          exact ⟨rfl, hB1⟩
        · have hG2 := Lib.hid (show GL (who.take (k + 1)) (who.drop (k + 1)) = GL [] who by rw [hst2.out, if_neg h2])
          have hd : Lib.containsS (who.take k) s = false := by simpa using h2
          rw [hd] at hcB'
          clear h2 hd hst2
          go_wp2_with fail
          refine hcA'.out.mono ?_; rintro e w1 ⟨rfl, B1⟩
          have hB1 := below_next hBe B1
          go_wp2_with fail
          refine (hcB'.out _ (hRS.out _ hB1)).mono ?_; rintro e w2 ⟨rfl, rfl⟩
          clear c0 B1
          go_wp2
          go_roundw
          case rel => exact ⟨k + 1, by omega, by go_num, hB1, hG2⟩
          case measure => simp [intOf]; omega
    · obtain rfl : k = m := by omega
      obtain rfl : E = 0 := by rw [hE2.out, ← hG.out, drop_end (by rw [hl'.out]; exact Nat.le_refl _), hG0.out]
      go_wp2
      go_ret
      exact ⟨rfl, hBe⟩
/-- is a start of that swimmer -/
theorem sameSp_c (x : Sp) (s : ByteArray) (b2 : Nat) (W : World) (hb : W.heap[b2]? = some (.cells #[.string s] 9 (0, 0))) :
    Calls Tryz.prog 149 (#[.agg (spE x).toArray] ++ #[.pointer (some ⟨b2, 0, none⟩)]) W fun e w' => e = .returned (.bool (decide (x.who = s))) ∧ Below W.heap.size W w' := by
  obtain ⟨who, heat, lane⟩ := x
  dsimp only [spE] at *
  have z0 := (blk_facts (heap_alloc_new W (.cells #[.string who, .int .i64 heat, .int .i64 lane] 111))).1 0
  have zs := (blk_facts (blk_alloc hb (.cells #[.string who, .int .i64 heat, .int .i64 lane] 111))).1 0
  have hB := below_new W (.cells #[.string who, .int .i64 heat, .int .i64 lane] 111)
  have lb := lt_of_heap hb
  clear hb
  by_cases h : who = s
  · subst h
    go_enter Tryz.func149, Tryz.ntmps149
    go_wp2
    go_ret
    exact ⟨by simp, hB⟩
  · have hn := str_ne h
    have h' := Lib.hid h
    clear h
    go_enter Tryz.func149, Tryz.ntmps149
    go_wp2
    go_ret
    exact ⟨by simp [h'.out], hB⟩
theorem any_who (l : List Sp) (s : ByteArray) : (l.any fun x => decide (x.who = s)) = Lib.containsS (l.map Sp.who) s := by
  rw [Bool.eq_iff_iff, List.any_eq_true, Lib.containsS_iff, List.mem_map]
  constructor
  · rintro ⟨x, h1, h2⟩; exact ⟨x, h1, of_decide_eq_true h2⟩
  · rintro ⟨x, h1, h2⟩; exact ⟨x, h1, decide_eq_true h2⟩
theorem memberSp_c (A : Option Addr) (n c : Nat) (l : List Sp) (s : ByteArray) (b4 : Nat) (w : World) (h : RSp w A n l) (hb : w.heap[b4]? = some (.cells #[.slice A n c] 103 (0, 0))) :
    Calls Tryz.prog 147 (#[.string s] ++ #[.pointer (some ⟨b4, 0, none⟩)]) w fun e w' => e = .returned (.bool (Lib.containsS (l.map Sp.who) s)) ∧ Below w.heap.size w w' := by
  have z4 := (blk_facts (blk_alloc hb (.cells #[.string s] 9))).1 0
  have lb := lt_of_heap hb
  have hbs := heap_alloc_new w (.cells #[.string s] 9)
  have hB := below_new w (.cells #[.string s] 9)
  have hCF := Lib.hid (hasSp_c 149 (enters_of Tryz.func149 (by kernel_rfl) rfl) #[.pointer (some ⟨w.heap.size, 0, none⟩)] (fun x => decide (x.who = s)) A n c l _ (h.below hB) (fun x _ W B => sameSp_c x s w.heap.size W (blk_below hbs B)))
  rw [any_who] at hCF
  generalize Lib.containsS (l.map Sp.who) s = R at *
  clear h hb hbs
  go_enter Tryz.func147, Tryz.ntmps147
  go_wp2_with fail
  refine hCF.out.mono ?_; rintro e w1 ⟨rfl, B1⟩
  have hB1 := below_next hB B1
  go_wp2
  go_ret
  exact ⟨rfl, hB1⟩
end Go.Proofs.YtdbfcneeiiialaaGreatDoor

/- heat.Scratch. -/
namespace Go.Proofs.YtdbfcneeiiialaaGreatDoor
open Go.RowKit Go.Shelf Go.Lib Go.Sort
set_option linter.unusedVariables false

theorem scrF_at (a : List ByteArray) (old hh : Int) {l : List Sp} {k : Nat} {x : Sp} (h : l[k]? = some x) : scrG old hh ((l.drop k).filter fun y => !Lib.containsS a y.who) = if Lib.containsS a x.who = true then scrG old hh ((l.drop (k + 1)).filter fun y => !Lib.containsS a y.who) else ⟨x.who, if x.heat ≠ old then hh + 1 else hh, x.lane⟩ :: scrG x.heat (if x.heat ≠ old then hh + 1 else hh) ((l.drop (k + 1)).filter fun y => !Lib.containsS a y.who) := by
  rw [drop_at h, List.filter_cons]
  by_cases hc : Lib.containsS a x.who = true
  · rw [if_pos hc, hc]; rfl
  · rw [if_neg hc, if_pos (by simpa using hc)]; rfl
def scrErr (p : Pl) (l : List Sp) (a : List ByteArray) : Int := if startsErr p l ≠ 0 then startsErr p l else goneErr (l.map Sp.who) a
/-- what is carried: the row under way -/
structure ScK (w : World) (u : Value) (acc : List Sp) (wx : World) : Prop where
  o : wx.ownsRow (w.heap.size + 2) 111 3 u acc.length (acc.flatMap spE)
  bel : Below w.heap.size w wx
  z : w.heap.size + 2 ≤ wx.heap.size
section
variable {w wx w' : World} {u : Value} {acc : List Sp}
theorem ScK.below (h : ScK w u acc wx) (B : Below wx.heap.size wx w') : ScK w u acc w' := ⟨own_below h.o B, below_next h.bel B, Nat.le_trans h.z B.size⟩
theorem ScK.set (h : ScK w u acc wx) {b : Nat} (hb : w.heap.size + 2 ≤ b) (hne : ∀ i, u.ownBlock = some i → i ≠ b) (j : Nat) (v : Value) : ScK w u acc (wx.setCell ⟨b, j, none⟩ v) := by
  have hg : wx.grownBy (wx.setCell ⟨b, j, none⟩ v) (some b) := grown_setCell (grown_refl wx _) (.inl rfl) _
  exact ⟨h.o.kept hg (by by_cases e : u.ownBlock = some b; exact absurd rfl (hne b e); exact .inr e), Below.setCell h.bel (by show w.heap.size ≤ b; omega) _, Nat.le_trans h.z hg.size⟩
theorem ScK.app (h : ScK w u acc wx) {v' : Value} (x : Sp) (ho : w'.ownsRow (w.heap.size + 2) 111 3 v' (acc.length + 1) (acc.flatMap spE ++ spE x)) (hg : wx.grownBy w' u.ownBlock) : ScK w v' (acc ++ [x]) w' := by
  refine ⟨?_, below_own h.bel h.o hg h.bel.size (by omega), Nat.le_trans h.z hg.size⟩
  rw [List.length_append, ← flat_snoc]; exact ho
end
set_option maxHeartbeats 6400000 in
set_option maxRecDepth 100000 in
theorem scratch_c (p : Pl) (hpb : PlBd p) (A B : Option Addr) (n c m d : Nat) (l : List Sp) (a : List ByteArray) (w : World) (h : RSp w A n l) (ha : RS 9 w B m a) (hcap : (B = none ∧ m = 0 ∧ d = 0) ∨ ∃ b, B = some ⟨b, 0, none⟩ ∧ m ≤ d) (hn : n ≤ 400) :
    Calls Tryz.prog 67 #[p.val, .slice A n c, .slice B m d] w fun e w' => ∃ A' n' c', e = .returned (.tuple #[.slice A' n' c', .int .i64 (scrErr p l a)]) ∧ RSp w' A' n' (if scrErr p l a = 0 then scrL a l else []) ∧ n' ≤ n ∧ ((A' = none ∧ n' = 0 ∧ c' = 0) ∨ ∃ b, A' = some ⟨b, 0, none⟩ ∧ n' ≤ c') ∧ Below w.heap.size w w' := by
  have hB1 : Below w.heap.size w ((w.alloc (.cells p.cells 97)).alloc (.cells #[.slice A n c] 103)) := below_next (below_new w (.cells p.cells 97)) (below_new _ (.cells #[.slice A n c] 103))
  have hx0 := heap_alloc_new (w.alloc (.cells p.cells 97)) (.cells #[.slice A n c] 103)
  rw [alloc_size] at hx0
  have hp0 : PoolB w.heap.size p ((w.alloc (.cells p.cells 97)).alloc (.cells #[.slice A n c] 103)) := blk_alloc (heap_alloc_new w _) _
  have hCS := Lib.hid (checkStarts_c p hpb A n c l _ (h.below hB1))
  have hWh := Lib.hid (fun W (B1 : Below w.heap.size w W) (hb : W.heap[w.heap.size + 1]? = some (.cells #[.slice A n c] 103 (0, 0))) => checkWhoG_c 147 (enters_of Tryz.func147 (by kernel_rfl) rfl) #[.pointer (some ⟨w.heap.size + 1, 0, none⟩)] B m d (l.map Sp.who) a W (ha.below B1) hcap (fun s W2 B2 => memberSp_c A n c l s (w.heap.size + 1) W2 ((h.below B1).below B2) (blk_below hb B2)))
  have hCn := Lib.hid (fun W B1 x => containsN_c B m d a x W (ha.below (w' := W) B1))
  have hR := Lib.hid (fun W B => h.below (w' := W) B)
  have hl := Lib.hid h.len
  have hz1 : w.heap.size + 2 ≤ ((w.alloc (.cells p.cells 97)).alloc (.cells #[.slice A n c] 103)).heap.size := by simp
  obtain ⟨E, hE⟩ : ∃ E, scrErr p l a = E := ⟨_, rfl⟩
  rw [hE]
  have hE' : Hid ((if startsErr p l ≠ 0 then startsErr p l else goneErr (l.map Sp.who) a) = E) := Lib.hid hE
  obtain ⟨LL, hLe⟩ : ∃ LL, scrL a l = LL := ⟨_, rfl⟩
  rw [hLe]
  have hL := Lib.hid (show LL = scrG 0 0 ((l.drop 0).filter fun y => !Lib.containsS a y.who) from hLe.symm)
  have hSa := Lib.hid (fun old hh k x (hx : l[k]? = some x) => scrF_at a old hh hx)
  have hS0 := Lib.hid (fun old hh => show scrG old hh ([].filter fun y => !Lib.containsS a y.who) = [] from rfl)
  generalize startsErr p l = SE at *
  generalize goneErr (l.map Sp.who) a = GE at *
  clear h ha hE hLe hpb
  obtain ⟨z0, z1, z2, z3⟩ := hp0.at_
  have hb1 := (blk_facts hx0).1 0
  obtain ⟨lo, hi, le, ci⟩ := p
  dsimp only [Pl.val, Pl.cells] at *
  generalize scrG = SG at *
  generalize (fun y : Sp => !Lib.containsS a y.who) = FF at *
  go_enter Tryz.func67, Tryz.ntmps67
  go_wp2_with fail
  refine hCS.out.mono ?_; rintro e w1 ⟨rfl, B1⟩
  have hB2 := below_next hB1 B1
  have hx1 := blk_below hx0 B1
  have hz2 := Nat.le_trans hz1 B1.size
  clear hB1 hx0 hCS B1 hz1 hp0 z0 z1 z2 z3 hb1
  by_cases h0 : SE = 0
  rotate_left
  · obtain rfl : SE = E := by rw [← hE'.out, if_pos h0]
    have hd : (SE != 0) = true := by simpa using h0
    have h0' := Lib.hid h0
    clear h0 hE' hWh hL
    go_wp2
    go_ret2
    exact ⟨none, 0, 0, rfl, RN.nil_ _ _ _ _ _, Nat.zero_le _, .inl ⟨rfl, rfl, rfl⟩, hB2⟩
  obtain rfl : GE = E := by rw [← hE'.out, if_neg (by simpa using h0)]
  subst h0
  have hWo := Lib.hid (hWh.out w1 hB2 hx1)
  clear hE' hWh
  go_wp2_with fail
  refine hWo.out.mono ?_; rintro e w2 ⟨rfl, B2⟩
  have K2 : ScK w (.slice none 0 0) [] w2 := ⟨World.ownsRow_nil _ _ _ _, below_next hB2 B2, Nat.le_trans hz2 B2.size⟩
  have hb2 := blk_below hx1 B2
  have hx2 := (blk_facts hb2).1 0
  clear hWo hB2 B2 hx1 hz2 hb2
  by_cases h1 : GE = 0
  rotate_left
  · have hd : (GE != 0) = true := by simpa using h1
    have hbel := K2.bel
    have h1' := Lib.hid h1
    clear h1 hL K2
    go_wp2
    go_ret2
    exact ⟨none, 0, 0, rfl, RN.nil_ _ _ _ _ _, Nat.zero_le _, .inl ⟨rfl, rfl, rfl⟩, hbel⟩
  subst h1
  go_wp2_with fail
  go_loopw [10, 11, 12, 29] (fun u o hh i wr => ∃ (k : Nat) (old nw : Int) (acc : List Sp), k ≤ n ∧ i = .int .i64 k ∧ o = .int .i64 old ∧ hh = .int .i64 nw ∧ (0 ≤ nw ∧ nw ≤ k) ∧ acc.length ≤ k ∧ ScK w u acc wr ∧ Hid (acc ++ SG old nw ((l.drop k).filter FF) = LL)) (fun _ _ _ i _ => n - (intOf i).toNat)
  case atStart => exact ⟨0, 0, 0, [], Nat.zero_le _, rfl, rfl, rfl, by omega, Nat.zero_le _, K2, Lib.hid hL.out.symm⟩
  case round =>
    clear K2 hx2
    rename World => wr
    obtain ⟨k, old, nw, acc, hk, rfl, rfl, rfl, ⟨nw0, nw1⟩, hak, K, hG⟩ := hrel
    obtain ⟨A5, c5, hu⟩ := own_shape K.o
    subst hu
    by_cases hlt : k < n
    · obtain ⟨b, off, x, rfl, hbl, hx, c0, c1, c2⟩ := RSp_at3 (hR.out _ K.bel) hlt
      have hst := Lib.hid (hSa.out old nw k x hx)
      have hx' := Lib.hid hx
      obtain ⟨who, heat, lane⟩ := x
      dsimp only at *
      have hn5 := heap_alloc_new wr (.cells #[.string who, .int .i64 heat, .int .i64 lane] 111)
      have K5 := K.below (below_new wr (.cells #[.string who, .int .i64 heat, .int .i64 lane] 111))
      have hC5 := Lib.hid (hCn.out _ K5.bel who)
      have hb7 : w.heap.size + 2 ≤ wr.heap.size := K.z
      have hne : ∀ i, (Value.slice A5 acc.length c5).ownBlock = some i → i ≠ wr.heap.size := fun i hi => by have := (K.o.lt i hi).2; omega
      have hsz7 : wr.heap.size < (wr.alloc (.cells #[.string who, .int .i64 heat, .int .i64 lane] 111)).heap.size := by simp
      have y0 := (blk_facts hn5).1 0
      clear hx K
      go_wp2_with fail
      refine hC5.out.mono ?_; rintro e w5 ⟨rfl, rfl⟩
      clear hC5
      generalize wr.alloc (.cells #[.string who, .int .i64 heat, .int .i64 lane] 111) = w5 at *
      generalize wr.heap.size = b7 at *
      have e9 : IntKind.i64.wrap (nw + 1) = nw + 1 := IntWalk.i64_in _ (by omega)
      have hK' := Lib.hid (fun (v : Value) => K5.set hb7 hne 1 v)
      by_cases hc : Lib.containsS a who = true
      · have hG2 := Lib.hid (show acc ++ SG old nw ((l.drop (k + 1)).filter FF) = LL by rw [← hG.out, hst.out, if_pos hc])
        rw [hc]
        clear hG hst hK' hne
        go_wp2
        go_roundw
        case rel => exact ⟨k + 1, old, nw, acc, by omega, by go_num, rfl, rfl, by omega, by omega, K5, hG2⟩
        case measure => simp [intOf]; omega
      · have hc' : Lib.containsS a who = false := by simpa using hc
        have hst2 := Lib.hid (show SG old nw ((l.drop k).filter FF) = ⟨who, if heat ≠ old then nw + 1 else nw, lane⟩ :: SG heat (if heat ≠ old then nw + 1 else nw) ((l.drop (k + 1)).filter FF) by rw [hst.out, if_neg hc])
        rw [hc']
        have y1 := (blk_facts hn5).1 1
        have f1 := (blk_facts hn5).2 1
        by_cases hh : heat = old
        · subst hh
          have hG2 := Lib.hid (show (acc ++ [(⟨who, nw, lane⟩ : Sp)]) ++ SG heat nw ((l.drop (k + 1)).filter FF) = LL by rw [← hG.out, hst2.out, if_neg (by simp), List.append_assoc]; rfl)
          have K6 := hK'.out (.int .i64 nw)
          have hx6 := blk_set hn5 1 (.int .i64 nw)
          have x60 := (blk_facts hx6).1 0
          have x61 := (blk_facts hx6).1 1
          have x62 := (blk_facts hx6).1 2
          clear hG hst hst2 hK' hne hc hc' hn5 hx6 K5
          go_wp2_with (at_builtin; refine wpList_app rfl (.tmp 47) (.tmp 49) 103 rfl Tryz.underlying103 info_start rfl (by omega) (by omega) K6.o rfl rfl (by first | rfl | (simp; done)) rfl (by simp [Value.oneCell']) (by omega) K6.z ?_; intro v9 w9 ho9 hg9)
          have K9 := K6.app ⟨who, nw, lane⟩ ho9 hg9
          clear ho9 hg9 K6
          go_roundw
          case rel => exact ⟨k + 1, heat, nw, _, by omega, by go_num, rfl, rfl, by omega, by rw [List.length_append]; show acc.length + 1 ≤ k + 1; omega, K9, hG2⟩
          case measure => simp [intOf]; omega
        · have hG2 := Lib.hid (show (acc ++ [(⟨who, nw + 1, lane⟩ : Sp)]) ++ SG heat (nw + 1) ((l.drop (k + 1)).filter FF) = LL by rw [← hG.out, hst2.out, if_pos hh, List.append_assoc]; rfl)
          have K6 := hK'.out (.int .i64 (nw + 1))
          have hx6 := blk_set hn5 1 (.int .i64 (nw + 1))
          have x60 := (blk_facts hx6).1 0
          have x61 := (blk_facts hx6).1 1
          have x62 := (blk_facts hx6).1 2
          clear hG hst hst2 hK' hne hc hc' hn5 hx6 K5
          go_wp2_with (at_builtin; refine wpList_app rfl (.tmp 47) (.tmp 49) 103 rfl Tryz.underlying103 info_start rfl (by omega) (by omega) K6.o rfl rfl (by first | rfl | (simp; done)) rfl (by simp [Value.oneCell']) (by omega) K6.z ?_; intro v9 w9 ho9 hg9)
          have K9 := K6.app ⟨who, nw + 1, lane⟩ ho9 hg9
          clear ho9 hg9 K6
          go_roundw
          case rel => exact ⟨k + 1, heat, nw + 1, _, by omega, by go_num, rfl, rfl, by omega, by rw [List.length_append]; show acc.length + 1 ≤ k + 1; omega, K9, hG2⟩
          case measure => simp [intOf]; omega
    · obtain rfl : k = n := by omega
      have hRL : acc = LL := by
        have h1 := hG.out
        rw [drop_end (by rw [hl.out]; exact Nat.le_refl _), hS0.out, List.append_nil] at h1
        exact h1
      have hrs : RSp wr A5 acc.length acc := RN.of_own spE_len K.o rfl (by omega)
      have hrs2 : RSp wr A5 acc.length (if (0 : Int) = 0 then LL else []) := by rw [if_pos rfl, ← hRL]; exact hrs
      have hcp := own_cap K.o rfl
      have hbel := K.bel
      clear hG hL hRL K hrs
      go_wp2
      go_ret2
      exact ⟨_, _, _, rfl, hrs2, hak, hcp.imp_right (fun ⟨b, h1, h2⟩ => ⟨⟨b, h1⟩, h2⟩), hbel⟩
end Go.Proofs.YtdbfcneeiiialaaGreatDoor
