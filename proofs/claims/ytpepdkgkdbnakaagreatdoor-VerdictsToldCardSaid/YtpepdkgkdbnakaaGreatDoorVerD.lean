/- Verdicts: what is decided of a swimmer. Printed by wip/genver.py. -/
import Derived.Test.YtpepdkgkdbnakaaGreatDoorVerC
import Derived.Test.YtpepdkgkdbnakaaGreatDoorPadF
namespace Go.Proofs.YtpepdkgkdbnakaaGreatDoor
open Go.RowKit Go.Shelf Go.Lib Go.Sort
set_option linter.unusedVariables false

/-- the first number from f on that passes; 0: none of the next n does -/
def vdF (p : Int → Bool) : Nat → Int → Int
  | 0, _ => 0
  | n + 1, f => if p f = true then f else vdF p n (f + 1)
theorem vdF_bd (p : Int → Bool) : ∀ (n : Nat) (f : Int), 1 ≤ f → vdF p n f = 0 ∨ (f ≤ vdF p n f ∧ vdF p n f < f + n)
  | 0, f, _ => .inl rfl
  | n + 1, f, h => by
    unfold vdF
    split
    · right; omega
    · rcases vdF_bd p n (f + 1) (by omega) with h1 | h1
      · exact .inl h1
      · right; omega
def repL (who : ByteArray) (f at_ W : Int) (l : List Rp) : List ByteArray := (l.filter fun x => mtB who f at_ x && (decide (x.wt = W) && !x.nt)).map Rp.id
theorem repL_at {who : ByteArray} {f at_ W : Int} {l : List Rp} {k : Nat} {x : Rp} (h : l[k]? = some x) : repL who f at_ W (l.drop k) = (if (mtB who f at_ x && (decide (x.wt = W) && !x.nt)) = true then [x.id] else []) ++ repL who f at_ W (l.drop (k + 1)) := by
  rw [drop_at h]
  unfold repL
  by_cases hm : (mtB who f at_ x && (decide (x.wt = W) && !x.nt)) = true
  · rw [if_pos hm, List.filter_cons_of_pos (by simpa using hm)]; rfl
  · rw [if_neg hm, List.filter_cons_of_neg (by simpa using hm)]; rfl
theorem repL_len (who : ByteArray) (f at_ W : Int) (l : List Rp) : (repL who f at_ W l).length ≤ l.length := by
  unfold repL; rw [List.length_map]; exact List.length_filter_le _ _
def pV (l : List Rp) (who : ByteArray) (at_ : Int) (gone : Int → Bool) (f : Int) : Bool := stB l who f at_ && !gone f
def fltV (l : List Rp) (who : ByteArray) (at_ : Int) (gone : Int → Bool) : Int := vdF (pV l who at_ gone) 8 1
def idsV (l : List Rp) (who : ByteArray) (at_ F : Int) : List ByteArray := if F = 0 then [] else repL who F at_ (lastV l who F at_).wt l
def tmV (l : List Rp) (who : ByteArray) (at_ F : Int) : Int := if F = 0 then 0 else (lastV l who F at_).tm
/-- what verdict hands back -/
def RetVd (w : World) (who : ByteArray) (F : Int) (ids : List ByteArray) (T : Int) (e : Ending) (w' : World) : Prop := ∃ A c, e = .returned (.tuple #[.agg #[.string who, .int .i64 F, .slice A ids.length c], .int .i64 T]) ∧ RS 9 w' A ids.length ids ∧ CapOk A ids.length c ∧ Below w.heap.size w w'
/-- the two boxes of verdict -/
structure VK (w : World) (who : ByteArray) (F : Value) (u : Value) (wr : World) : Prop where
  b8 : wr.heap[w.heap.size]? = some (.cells #[.string ⟨#[]⟩, .int .i64 0, .slice none 0 0] 69 (0, 0))
  b10 : wr.heap[w.heap.size + 1]? = some (.cells #[.string who, F, u] 69 (0, 0))
  bel : Below w.heap.size w wr
theorem VK.below {w : World} {who : ByteArray} {F u : Value} {wr w' : World} (h : VK w who F u wr) (B : Below wr.heap.size wr w') : VK w who F u w' := ⟨blk_below h.b8 B, blk_below h.b10 B, below_next h.bel B⟩
theorem VK.set {w : World} {who : ByteArray} {F u : Value} {wr : World} (h : VK w who F u wr) (v : Value) : VK w who v u (wr.setCell ⟨w.heap.size + 1, 1, none⟩ v) := by
  refine ⟨?_, ?_, h.bel.setCell (by show w.heap.size ≤ w.heap.size + 1; omega) v⟩
  · rw [Below.heap_setCell _ _ _ _ (by show w.heap.size ≠ w.heap.size + 1; omega)]; exact h.b8
  · simpa using blk_set h.b10 1 v
theorem VK.setU {w : World} {who : ByteArray} {F u : Value} {wr : World} (h : VK w who F u wr) (v : Value) : VK w who F v (wr.setCell ⟨w.heap.size + 1, 2, none⟩ v) := by
  refine ⟨?_, ?_, h.bel.setCell (by show w.heap.size ≤ w.heap.size + 1; omega) v⟩
  · rw [Below.heap_setCell _ _ _ _ (by show w.heap.size ≠ w.heap.size + 1; omega)]; exact h.b8
  · simpa using blk_set h.b10 2 v
def vd3 (w : World) (b : Nat) (v0 v1 v2 : Value) : World := ((w.setCell ⟨b, 0, none⟩ v0).setCell ⟨b, 1, none⟩ v1).setCell ⟨b, 2, none⟩ v2
theorem vd3_blk {T : TypeId} {w : World} {b : Nat} {u0 u1 u2 : Value} (h : w.heap[b]? = some (.cells #[u0, u1, u2] T (0, 0))) (v0 v1 v2 : Value) : (vd3 w b v0 v1 v2).heap[b]? = some (.cells #[v0, v1, v2] T (0, 0)) := by
  have h8 := (blk_set (blk_set (blk_set h 0 v0) 1 v1) 2 v2)
  simpa [vd3] using h8
theorem vd3_below {B : Nat} {a w : World} (h : Below B a w) {b : Nat} (hb : B ≤ b) (v0 v1 v2 : Value) : Below B a (vd3 w b v0 v1 v2) := ((h.setCell hb v0).setCell hb v1).setCell hb v2
theorem vd3_RS {w : World} {b : Nat} {cs : Array Value} {fz : Nat × Nat} (hb : w.heap[b]? = some (.cells cs 69 fz)) {A : Option Addr} {n : Nat} {l : List ByteArray} (h : RS 9 w A n l) (v0 v1 v2 : Value) : RS 9 (vd3 w b v0 v1 v2) A n l := by
  refine h.keep (T := 69) (by decide) (fun b' cs' e' fz' hne hb' => ?_)
  have hne2 : b' ≠ b := by
    rintro rfl
    rw [hb] at hb'
    injection hb' with hb'
    injection hb' with _ h2
    exact hne h2.symm
  unfold vd3
  rw [Below.heap_setCell _ _ _ _ hne2, Below.heap_setCell _ _ _ _ hne2, Below.heap_setCell _ _ _ _ hne2]
  exact hb'
theorem own_ty3 {w : World} {B s n g : Nat} {e e2 : TypeId} {u : Value} {xs : List Value} {cs : Array Value} {fz : Nat × Nat} (h1 : w.ownsRow B e s u n xs) (h2 : w.heap[g]? = some (.cells cs e2 fz)) (he : e2 ≠ e) : ∀ i, u.ownBlock = some i → i ≠ g := by
  intro i hi hig
  subst hig
  rcases h1.2 with ⟨rfl, _⟩ | ⟨g', cap, cur, rfl, _, hg, _⟩
  · simp [Value.ownBlock] at hi
  · simp [Value.ownBlock] at hi
    subst hi
    rw [hg] at h2
    injection h2 with h2
    injection h2 with _ h3
    exact he h3.symm
set_option maxHeartbeats 6400000 in
set_option maxRecDepth 100000 in
theorem verdictN_c (A : Option Addr) (n c : Nat) (l : List Rp) (who : ByteArray) (at_ : Int) (gone : Int → Bool) (w : World) (h : RRp w A n l) (hn : n ≤ 100000)
    (hG : ∀ (j : Nat) W, j < 8 → Below w.heap.size w W → Calls Tryz.prog 135 #[.int .i64 (1 + (j : Int))] W fun e w' => e = .returned (.bool (gone (1 + (j : Int)))) ∧ Below W.heap.size W w') :
    Calls Tryz.prog 134 #[.slice A n c, .string who, .int .i64 at_, .func (.func 135) #[] #[]] w (RetVd w who (fltV l who at_ gone) (idsV l who at_ (fltV l who at_ gone)) (tmV l who at_ (fltV l who at_ gone))) := by
  have hR := Lib.hid (fun W B => h.below (w' := W) B)
  have hl := Lib.hid h.len
  have hSt := Lib.hid (fun f W (B : Below w.heap.size w W) => stands_c A n c l who f at_ W (h.below B))
  have hLa := Lib.hid (fun f W (B : Below w.heap.size w W) => last_c A n c l who f at_ W (h.below B))
  have hG' := Lib.hid hG
  have hF0 := Lib.hid (show vdF (pV l who at_ gone) 8 1 = fltV l who at_ gone from rfl)
  have hpV := Lib.hid (fun f => show pV l who at_ gone f = (stB l who f at_ && !gone f) from rfl)
  have hid0 := Lib.hid (show idsV l who at_ 0 = [] from rfl)
  have htm0 := Lib.hid (show tmV l who at_ 0 = 0 from rfl)
  have hid1 := Lib.hid (fun (F : Int) (h : F ≠ 0) => show idsV l who at_ F = repL who F at_ (lastV l who F at_).wt l from if_neg h)
  have htm1 := Lib.hid (fun (F : Int) (h : F ≠ 0) => show tmV l who at_ F = (lastV l who F at_).tm from if_neg h)
  have hGa := Lib.hid (fun (F W : Int) k x (h : l[k]? = some x) => repL_at (who := who) (f := F) (at_ := at_) (W := W) h)
  have hRl := Lib.hid (fun (F W : Int) => show (repL who F at_ W l).length ≤ n by rw [← h.len]; exact repL_len _ _ _ _ _)
  generalize fltV l who at_ gone = F at *
  generalize pV l who at_ gone = pp at *
  clear h hG
  have hb8 := blk_alloc (heap_alloc_new w (.cells #[.string ⟨#[]⟩, .int .i64 0, .slice none 0 0] 69)) (.cells #[.string who, .int .i64 0, .slice none 0 0] 69)
  have hb10 := heap_alloc_new (w.alloc (.cells #[.string ⟨#[]⟩, .int .i64 0, .slice none 0 0] 69)) (.cells #[.string who, .int .i64 0, .slice none 0 0] 69)
  rw [alloc_sizeS] at hb10
  have K0 : VK w who (.int .i64 0) (.slice none 0 0) ((w.alloc (.cells #[.string ⟨#[]⟩, .int .i64 0, .slice none 0 0] 69)).alloc (.cells #[.string who, .int .i64 0, .slice none 0 0] 69)) := ⟨hb8, hb10, below_next (below_new w _) (below_new _ _)⟩
  clear hb8 hb10
  go_enter Tryz.func134, Tryz.ntmps134
  go_wp2_with fail
  go_loopw [11] (fun f wr => ∃ (j : Nat), j ≤ 8 ∧ f = .int .i64 (1 + (j : Int)) ∧ VK w who (.int .i64 0) (.slice none 0 0) wr ∧ Hid (vdF pp (8 - j) (1 + (j : Int)) = F)) (fun f _ => 9 - (intOf f).toNat)
  case atStart => exact ⟨0, Nat.zero_le _, rfl, K0, hF0⟩
  case round =>
    clear K0
    rename World => wr
    obtain ⟨j, hj, rfl, K, hF⟩ := hrel
    by_cases hlt : j < 8
    · have hd8 : decide (1 + (j : Int) ≤ 8) = true := decide_eq_true (by omega)
      have hstep := Lib.hid (show (if pp (1 + (j : Int)) = true then 1 + (j : Int) else vdF pp (8 - (j + 1)) (1 + ((j + 1 : Nat) : Int))) = F by
        rw [← hF.out, show 8 - j = (8 - (j + 1)) + 1 by omega, show (1 + ((j + 1 : Nat) : Int)) = 1 + (j : Int) + 1 by omega]; rfl)
      have uw : IntKind.i64.wrap (1 + (j : Int) + 1) = 1 + (j : Int) + 1 := IntWalk.i64_in _ (by omega)
      have hpf := Lib.hid (hpV.out (1 + (j : Int)))
      have hSt1 := Lib.hid (hSt.out (1 + (j : Int)) wr K.bel)
      have hG1 := Lib.hid (fun W B => hG'.out j W hlt B)
      have hLa1 := Lib.hid (fun W B => hLa.out (1 + (j : Int)) W B)
      have hid9 := Lib.hid (hid1.out (1 + (j : Int)) (by omega))
      have htm9 := Lib.hid (htm1.out (1 + (j : Int)) (by omega))
      have hGa1 := Lib.hid (fun W k x h => hGa.out (1 + (j : Int)) W k x h)
      have hRl1 := Lib.hid (fun W => hRl.out (1 + (j : Int)) W)
      have hf1 : (1 : Int) ≤ 1 + (j : Int) := by omega
      generalize stB l who (1 + (j : Int)) at_ = sb at *
      generalize lastV l who (1 + (j : Int)) at_ = V at *
      generalize gone (1 + (j : Int)) = gb at *
      generalize pp (1 + (j : Int)) = pb at *
      clear hF
      go_wp2_with fail
      refine hSt1.out.mono ?_; rintro e w1 ⟨rfl, B1⟩
      replace K := K.below B1
      clear B1 hSt1
      cases sb
      · have hst2 := Lib.hid ((if_neg (by rw [hpf.out]; simp)).symm.trans hstep.out)
        clear hstep hpf
        go_wp2
        go_roundw
        case rel => exact ⟨j + 1, by omega, by go_num, K, hst2⟩
        case measure => simp [intOf]; omega
      go_wp2_with fail
      refine (hG1.out _ K.bel).mono ?_; rintro e w2 ⟨rfl, B2⟩
      replace K := K.below B2
      clear B2 hG1
      cases gb
      rotate_left
      · have hst2 := Lib.hid ((if_neg (by rw [hpf.out]; simp)).symm.trans hstep.out)
        clear hstep hpf
        go_wp2
        go_roundw
        case rel => exact ⟨j + 1, by omega, by go_num, K, hst2⟩
        case measure => simp [intOf]; omega
      obtain rfl : F = 1 + (j : Int) := by rw [← hstep.out, if_pos (by rw [hpf.out]; rfl)]
      clear hstep hpf hd8
      have q1 := (blk_facts K.b10).1 1
      have q2 := (blk_facts K.b10).2 1
      have K2 := K.set (.int .i64 (1 + (j : Int)))
      clear K
      obtain ⟨id1, jd1, wo1, fault1, tm1, wt1, nt1⟩ := V
      dsimp only [rpE] at *
      go_wp2_with fail
      refine (hLa1.out _ K2.bel).mono ?_; rintro e w3 ⟨rfl, B3⟩
      have K3 := K2.below B3
      clear q1 q2 K2 B3 hLa1
      have hn3 := heap_alloc_new w3 (.cells #[.string id1, .string jd1, .string wo1, .int .i64 fault1, .int .i64 tm1, .int .i64 wt1, .bool nt1] 86)
      have hs3 := lt_of_heap K3.b10
      have K4 := K3.below (below_new w3 (.cells #[.string id1, .string jd1, .string wo1, .int .i64 fault1, .int .i64 tm1, .int .i64 wt1, .bool nt1] 86))
      have hz4 : (w3.alloc (.cells #[.string id1, .string jd1, .string wo1, .int .i64 fault1, .int .i64 tm1, .int .i64 wt1, .bool nt1] 86)).heap.size = w3.heap.size + 1 := by simp
      clear K3
      have hRl2 := hRl1.out wt1
      obtain ⟨RP, hrep0⟩ : ∃ RP, repL who (1 + (j : Int)) at_ wt1 l = RP := ⟨_, rfl⟩
      have hrep := Lib.hid hrep0
      rw [hrep0] at hRl2
      replace hid9 := Lib.hid (hid9.out.trans hrep0)
      clear hrep0
      have hGa2 := Lib.hid (fun k x h => hGa1.out wt1 k x h)
      go_wp2_with fail
      go_loopw [51] (fun i wr => ∃ (k : Nat) (P : List ByteArray) (u : Value), k ≤ n ∧ i = .int .i64 k ∧ P.length ≤ k ∧ VK w who (.int .i64 (1 + (j : Int))) u wr ∧ wr.heap[w3.heap.size]? = some (.cells #[.string id1, .string jd1, .string wo1, .int .i64 fault1, .int .i64 tm1, .int .i64 wt1, .bool nt1] 86 (0, 0)) ∧ wr.ownsRow (w.heap.size + 2) 9 1 u P.length (P.map Value.string) ∧ w3.heap.size < wr.heap.size ∧ Hid (RP = P ++ repL who (1 + (j : Int)) at_ wt1 (l.drop k))) (fun i _ => n - (intOf i).toNat)
      case atStart => exact ⟨0, [], _, Nat.zero_le _, rfl, Nat.le_refl _, K4, hn3, World.ownsRow_nil _ _ _ _, by rw [hz4]; omega, Lib.hid (by rw [← hrep.out]; rfl)⟩
      case round =>
        clear K4 hn3 hz4
        rename World => wr
        obtain ⟨k, P, u, hk, rfl, hP, K, hn3, hown, hsz, hF⟩ := hrel
        by_cases hlt2 : k < n
        · obtain ⟨b, off, x, rfl, hbl, hx, c0, c1, c2, c3, c4, c5, c6⟩ := RRp_at7 (hR.out _ K.bel) hlt2
          have hS := Lib.hid (hGa2.out k x hx)
          clear hx
          obtain ⟨id, jd, wo, fault, tm, wt, nt⟩ := x
          dsimp only [rpE] at *
          have hn0 := heap_alloc_new wr (.cells #[.string id, .string jd, .string wo, .int .i64 fault, .int .i64 tm, .int .i64 wt, .bool nt] 86)
          have hBN := below_new wr (.cells #[.string id, .string jd, .string wo, .int .i64 fault, .int .i64 tm, .int .i64 wt, .bool nt] 86)
          have K5 := K.below hBN
          have hn5 := blk_below hn3 hBN
          have how5 := own_below hown hBN
          have hws := K.bel.size
          have hz5 : (wr.alloc (.cells #[.string id, .string jd, .string wo, .int .i64 fault, .int .i64 tm, .int .i64 wt, .bool nt] 86)).heap.size = wr.heap.size + 1 := by simp
          have hn0l := lt_of_heap hn0
          have x0 := (blk_facts hn0).1 0
          have x1 := (blk_facts hn0).1 1
          have x2 := (blk_facts hn0).1 2
          have x3 := (blk_facts hn0).1 3
          have x4 := (blk_facts hn0).1 4
          have x5 := (blk_facts hn0).1 5
          have x6 := (blk_facts hn0).1 6
          have y5 := (blk_facts hn5).1 5
          have q2 := (blk_facts K5.b10).1 2
          have hcase : (wo = who ∧ fault = 1 + (j : Int) ∧ tm ≤ at_ ∧ wt = wt1 ∧ nt = false) ∨ ((wo.toList == who.toList) = false) ∨ (wo = who ∧ (((fault == 1 + (j : Int)) = false) ∨ (fault = 1 + (j : Int) ∧ ((decide (tm ≤ at_) = false) ∨ (decide (tm ≤ at_) = true ∧ (((wt == wt1) = false) ∨ (wt = wt1 ∧ nt = true))))))) := by
            by_cases e1 : wo = who
            · by_cases e2 : fault = 1 + (j : Int)
              · by_cases e3 : tm ≤ at_
                · by_cases e4 : wt = wt1
                  · cases nt
                    · exact .inl ⟨e1, e2, e3, e4, rfl⟩
                    · exact .inr (.inr ⟨e1, .inr ⟨e2, .inr ⟨decide_eq_true e3, .inr ⟨e4, rfl⟩⟩⟩⟩)
                  · exact .inr (.inr ⟨e1, .inr ⟨e2, .inr ⟨decide_eq_true e3, .inl (beq_eq_false_iff_ne.2 e4)⟩⟩⟩)
                · exact .inr (.inr ⟨e1, .inr ⟨e2, .inl (decide_eq_false e3)⟩⟩)
              · exact .inr (.inr ⟨e1, .inl (beq_eq_false_iff_ne.2 e2)⟩)
            · exact .inr (.inl (str_neV e1))
          rcases hcase with ⟨h1, h2, e3, h4, h5⟩ | hcase
          · have hS2 := Lib.hid (hF.out.trans (by rw [hS.out, if_pos (by simp [mtB, h1, h2, e3, h4, h5]), ← List.append_assoc]))
            have d3 : decide (tm ≤ at_) = true := decide_eq_true e3
            have hz6 : w.heap.size + 2 ≤ (wr.alloc (.cells #[.string id, .string jd, .string wo, .int .i64 fault, .int .i64 tm, .int .i64 wt, .bool nt] 86)).heap.size := by rw [hz5]; omega
            have b1 : (wo.toList == who.toList) = true := by rw [h1]; exact beq_self_eq_true _
            have b2 : (fault == 1 + (j : Int)) = true := by rw [h2]; exact beq_self_eq_true _
            have b4 : (wt == wt1) = true := by rw [h4]; exact beq_self_eq_true _
            subst h5
            clear hS hF hown K hn3 hbl h1 h2 h4 e3
            go_wp2_with (at_builtin; refine wpList_app rfl (.tmp 84) (.tmp 87) 49 rfl Tryz.underlying49 info_strS rfl (by omega) (by omega) how5 rfl rfl (by first | rfl | (simp; done)) rfl (by simp [Value.oneCell']) (by omega) hz6 ?_; intro v7 w7 hown7 hg7; obtain ⟨A7, c7, rfl⟩ := own_shape hown7; have hb10 := blk_grown K5.b10 hg7 (fun e => by have := own_row_lt how5 _ e.symm; omega); have hb8 := blk_grown K5.b8 hg7 (fun e => by have := own_row_lt how5 _ e.symm; omega); have hn7 := blk_grown hn5 hg7 (fun e => by have h1 := own_ty3 how5 hn5 (by decide) _ e.symm; exact h1 rfl); have K7 : VK w who (.int .i64 (1 + (j : Int))) u w7 := ⟨hb8, hb10, below_own K5.bel how5 hg7 K5.bel.size (by omega)⟩; have g2 := (blk_facts hb10).1 2; have f2 := (blk_facts hb10).2 2; have K8 := K7.setU (.slice A7 (P.length + 1) c7); have hs7 := hg7.size; have hown8 : (w7.setCell ⟨w.heap.size + 1, 2, none⟩ (.slice A7 (P.length + 1) c7)).ownsRow (w.heap.size + 2) 9 1 (.slice A7 (P.length + 1) c7) (P ++ [id]).length ((P ++ [id]).map Value.string) := (show w7.ownsRow (w.heap.size + 2) 9 1 (.slice A7 (P.length + 1) c7) (P ++ [id]).length ((P ++ [id]).map Value.string) by rw [List.map_append, List.length_append]; exact hown7).kept (grown_setCell (grown_refl w7 (some (w.heap.size + 1))) (p := ⟨w.heap.size + 1, 2, none⟩) (.inl rfl) _) (own_ne hown7 (by omega)); clear hown7 hb10 hb8 K7)
            go_roundw
            case rel => exact ⟨k + 1, P ++ [id], .slice A7 (P.length + 1) c7, by omega, by go_num, by rw [List.length_append]; simp; omega, K8, (by rw [Below.heap_setCell _ _ _ _ (by show w3.heap.size ≠ w.heap.size + 1; omega)]; exact hn7), hown8, by simp [World.setCell]; omega, hS2⟩
            case measure => simp [intOf]; omega
          · have hno : ¬ (mtB who (1 + (j : Int)) at_ ⟨id, jd, wo, fault, tm, wt, nt⟩ && (decide (wt = wt1) && !nt)) = true := by
              intro hh
              simp only [mtB, Bool.and_eq_true, decide_eq_true_eq, Bool.not_eq_true'] at hh
              obtain ⟨⟨h3, h4, h5⟩, h6, h7⟩ := hh
              rcases hcase with q | ⟨_, q | ⟨_, q | ⟨_, q | ⟨_, q⟩⟩⟩⟩
              · rw [h3] at q; simp at q
              · rw [h4] at q; simp at q
              · exact absurd h5 (of_decide_eq_false q)
              · rw [h6] at q; simp at q
              · rw [h7] at q; cases q
            have hS2 := Lib.hid (hF.out.trans (by rw [hS.out, if_neg hno, List.nil_append]))
            clear hS hno hF hown K hn3
            rcases hcase with q | ⟨h1, q | ⟨h2, q | ⟨q, q' | ⟨h4, h5⟩⟩⟩⟩
            · go_wp2
              go_roundw
              case rel => exact ⟨k + 1, P, u, by omega, by go_num, by omega, K5, hn5, how5, by omega, hS2⟩
              case measure => simp [intOf]; omega
            · have b1 : (wo.toList == who.toList) = true := by rw [h1]; exact beq_self_eq_true _
              clear h1
              go_wp2
              go_roundw
              case rel => exact ⟨k + 1, P, u, by omega, by go_num, by omega, K5, hn5, how5, by omega, hS2⟩
              case measure => simp [intOf]; omega
            · have b1 : (wo.toList == who.toList) = true := by rw [h1]; exact beq_self_eq_true _
              have b2 : (fault == 1 + (j : Int)) = true := by rw [h2]; exact beq_self_eq_true _
              clear h1 h2
              go_wp2
              go_roundw
              case rel => exact ⟨k + 1, P, u, by omega, by go_num, by omega, K5, hn5, how5, by omega, hS2⟩
              case measure => simp [intOf]; omega
            · have b1 : (wo.toList == who.toList) = true := by rw [h1]; exact beq_self_eq_true _
              have b2 : (fault == 1 + (j : Int)) = true := by rw [h2]; exact beq_self_eq_true _
              clear h1 h2
              go_wp2
              go_roundw
              case rel => exact ⟨k + 1, P, u, by omega, by go_num, by omega, K5, hn5, how5, by omega, hS2⟩
              case measure => simp [intOf]; omega
            · have b1 : (wo.toList == who.toList) = true := by rw [h1]; exact beq_self_eq_true _
              have b2 : (fault == 1 + (j : Int)) = true := by rw [h2]; exact beq_self_eq_true _
              have b4 : (wt == wt1) = true := by rw [h4]; exact beq_self_eq_true _
              subst h5
              clear h1 h2 h4
              go_wp2
              go_roundw
              case rel => exact ⟨k + 1, P, u, by omega, by go_num, by omega, K5, hn5, how5, by omega, hS2⟩
              case measure => simp [intOf]; omega
        · obtain rfl : k = n := by omega
          have hfin : RP = P := by rw [hF.out, drop_end (by rw [hl.out]; exact Nat.le_refl _)]; simp [repL]
          subst hfin
          obtain ⟨A9, c9, rfl⟩ := own_shape hown
          have hrs : RS 9 wr A9 RP.length RP := R1.of_own hown (by omega)
          have hcp := Lib.hid (capOk_own hown)
          clear hF hown
          have hbF1 := Lib.hid (vd3_blk K.b8 (.string who) (.int .i64 (1 + (j : Int))) (.slice A9 RP.length c9))
          have hBF1 := Lib.hid (vd3_below K.bel (Nat.le_refl _) (.string who) (.int .i64 (1 + (j : Int))) (.slice A9 RP.length c9))
          have hrF1 := Lib.hid (vd3_RS K.b8 hrs (.string who) (.int .i64 (1 + (j : Int))) (.slice A9 RP.length c9))
          have y0 := (blk_facts K.b10).1 0
          have y1 := (blk_facts K.b10).1 1
          have y2 := (blk_facts K.b10).1 2
          have v0 := (blk_facts K.b8).1 0
          have v1 := (blk_facts K.b8).1 1
          have v2 := (blk_facts K.b8).1 2
          have f0 := (blk_facts K.b8).2 0
          have f1 := (blk_facts K.b8).2 1
          have f2 := (blk_facts K.b8).2 2
          clear K hrs
          go_wp2
          generalize hW : ((wr.setCell ⟨w.heap.size, 0, none⟩ (.string who)).setCell ⟨w.heap.size, 1, none⟩ (.int .i64 (1 + (j : Int)))).setCell ⟨w.heap.size, 2, none⟩ (.slice A9 RP.length c9) = wF
          have hbF := hbF1.out
          have hBF := hBF1.out
          have hrF := hrF1.out
          replace hbF : wF.heap[w.heap.size]? = some (.cells #[.string who, .int .i64 (1 + (j : Int)), (.slice A9 RP.length c9)] 69 (0, 0)) := by rw [← hW]; exact hbF
          replace hBF : Below w.heap.size w wF := by rw [← hW]; exact hBF
          replace hrF : RS 9 wF A9 RP.length RP := by rw [← hW]; exact hrF
          clear hW v0 v1 v2 f0 f1 f2 y0 y1 y2 hbF1 hBF1 hrF1
          have zF := (blk_facts hbF).1
          (try simp only [Exit.inBlock, Exit.then])
          refine bodyPost_ret (v := .tuple #[.agg #[.string who, .int .i64 (1 + (j : Int)), (.slice A9 RP.length c9)], .int .i64 tm1]) ?_ rfl (show RetVd w who (1 + (j : Int)) (idsV l who at_ (1 + (j : Int))) (tmV l who at_ (1 + (j : Int))) _ _ by rw [hid9.out, htm9.out]; exact ⟨A9, c9, rfl, hrF, hcp.out, hBF⟩)
          simp [results, Tryz.results134, go_sem, zF]

    · obtain rfl : j = 8 := by omega
      have hFz : F = 0 := by rw [← hF.out]; rfl
      subst hFz
      have hrs : RS 9 wr none 0 [] := R1.nil_ _ _ _ _
      clear hF
      have hbF1 := Lib.hid (vd3_blk K.b8 (.string who) (.int .i64 0) (.slice none 0 0))
      have hBF1 := Lib.hid (vd3_below K.bel (Nat.le_refl _) (.string who) (.int .i64 0) (.slice none 0 0))
      have hrF1 := Lib.hid (vd3_RS K.b8 hrs (.string who) (.int .i64 0) (.slice none 0 0))
      have y0 := (blk_facts K.b10).1 0
      have y1 := (blk_facts K.b10).1 1
      have y2 := (blk_facts K.b10).1 2
      have v0 := (blk_facts K.b8).1 0
      have v1 := (blk_facts K.b8).1 1
      have v2 := (blk_facts K.b8).1 2
      have f0 := (blk_facts K.b8).2 0
      have f1 := (blk_facts K.b8).2 1
      have f2 := (blk_facts K.b8).2 2
      clear K hrs
      go_wp2
      generalize hW : ((wr.setCell ⟨w.heap.size, 0, none⟩ (.string who)).setCell ⟨w.heap.size, 1, none⟩ (.int .i64 0)).setCell ⟨w.heap.size, 2, none⟩ (.slice none 0 0) = wF
      have hbF := hbF1.out
      have hBF := hBF1.out
      have hrF := hrF1.out
      replace hbF : wF.heap[w.heap.size]? = some (.cells #[.string who, .int .i64 0, (.slice none 0 0)] 69 (0, 0)) := by rw [← hW]; exact hbF
      replace hBF : Below w.heap.size w wF := by rw [← hW]; exact hBF
      replace hrF : RS 9 wF none 0 [] := by rw [← hW]; exact hrF
      clear hW v0 v1 v2 f0 f1 f2 y0 y1 y2 hbF1 hBF1 hrF1
      have zF := (blk_facts hbF).1
      (try simp only [Exit.inBlock, Exit.then])
      refine bodyPost_ret (v := .tuple #[.agg #[.string who, .int .i64 0, (.slice none 0 0)], .int .i64 0]) ?_ rfl (show RetVd w who 0 (idsV l who at_ 0) (tmV l who at_ 0) _ _ by rw [hid0.out, htm0.out]; exact ⟨none, 0, rfl, hrF, .inl ⟨rfl, rfl, rfl⟩, hBF⟩)
      simp [results, Tryz.results134, go_sem, zF]

end Go.Proofs.YtpepdkgkdbnakaaGreatDoor
