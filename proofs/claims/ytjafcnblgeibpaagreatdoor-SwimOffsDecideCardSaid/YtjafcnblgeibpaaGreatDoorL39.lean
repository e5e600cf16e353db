/- SwimOffsDecide: a swim-off moves nobody but those in it; the walk. -/
import Derived.Test.YtjafcnblgeibpaaGreatDoorDecP
import Derived.Test.YtjafcnblgeibpaaGreatDoorOffM
import Derived.Test.YtjafcnblgeibpaaGreatDoorPoolM
import Derived.Test.YtjafcnblgeibpaaGreatDoorReady
import Derived.Deep.DeepCutAuto
namespace Go.Proofs.YtjafcnblgeibpaaGreatDoor
open Go.RowKit Go.Shelf Go.Lib Go.Sort
set_option linter.unusedVariables false

def Qs (N : List ByteArray) (x x' : Sd) : Prop := x.time = x'.time ∧ (x.who ∈ N ∨ x = x')
def Alike (N : List ByteArray) : List Sd → List Sd → Prop
  | [], [] => True
  | x :: l, x' :: l' => Qs N x x' ∧ Alike N l l'
  | _, _ => False
theorem alike_of {N : List ByteArray} : ∀ {l l' : List Sd}, l.length = l'.length → (∀ (k : Nat) x x', l[k]? = some x → l'[k]? = some x' → Qs N x x') → Alike N l l'
  | [], [], _, _ => trivial
  | [], _ :: _, h, _ => by simp at h
  | _ :: _, [], h, _ => by simp at h
  | x :: l, x' :: l', h, hq => ⟨hq 0 x x' rfl rfl, alike_of (by simpa using h) (fun k y y' h1 h2 => hq (k + 1) y y' h1 h2)⟩
theorem alike_get {N : List ByteArray} : ∀ {l l' : List Sd}, Alike N l l' → l.length = l'.length ∧ ∀ (k : Nat) x x', l[k]? = some x → l'[k]? = some x' → Qs N x x'
  | [], [], _ => ⟨rfl, fun k x x' h => by simp at h⟩
  | [], _ :: _, h => h.elim
  | _ :: _, [], h => h.elim
  | x :: l, x' :: l', ⟨h1, h2⟩ => by
    obtain ⟨a, b⟩ := alike_get h2
    refine ⟨by simp [a], fun k y y' hy hy' => ?_⟩
    cases k with
    | zero =>
      obtain rfl : x = y := by simpa using hy
      obtain rfl : x' = y' := by simpa using hy'
      exact h1
    | succ k => exact b k y y' hy hy'
theorem run_same {t : Int} : ∀ {l : List Sd} {x : Sd}, x ∈ l.take (runN t l) → x.time = t
  | [], x, h => by simp at h
  | y :: r, x, h => by
    unfold runN at h
    split at h
    · rename_i ht
      rw [List.take_succ_cons] at h
      rcases List.mem_cons.1 h with rfl | h
      · exact ht
      · exact run_same h
    · simp at h
theorem runE_same {L : List Sd} {i : Nat} {y : Sd} (hy : L[i]? = some y) {x : Sd} (h : x ∈ (L.drop i).take (runE L i - i)) : x.time = y.time := by
  rw [drop_at hy, runE_at hy, show i + 1 + runN y.time (L.drop (i + 1)) - i = runN y.time (L.drop (i + 1)) + 1 by omega, List.take_succ_cons] at h
  rcases List.mem_cons.1 h with rfl | h
  · rfl
  · exact run_same h
theorem sortG_alike {T : ByteArray → Int} {L acc : List Sd} {N : List ByteArray} {i : Nat} (hi : i < L.length) (hl : acc.length = L.length) (hd : acc.drop i = L.drop i) (ha : Alike N L acc) (hN : ∀ s ∈ nmsOf L (i, runE L i), s ∈ N) : Alike N L (sortG T acc (i, runE L i)) := by
  obtain ⟨y, hy⟩ := at_of_lt hi
  have hgt := runE_gt L i
  have hle := runE_le hi
  have hlen : (sortG T acc (i, runE L i)).length = acc.length := sortG_len (by show i ≤ runE L i; omega)
  obtain ⟨_, hq⟩ := alike_get ha
  refine alike_of (by rw [hlen, hl]) (fun k x x' hx hx' => ?_)
  have hil : (acc.take i).length = i := by rw [List.length_take]; omega
  have hsl : (insL (ltOf fun x y => tmCf (T x.who) (T y.who)) ((acc.drop i).take (runE L i - i))).length = runE L i - i := by rw [insL_len, List.length_take, List.length_drop]; omega
  unfold sortG at hx'
  dsimp only at hx'
  by_cases h1 : k < i
  · rw [List.getElem?_append_left (by rw [hil]; exact h1), List.getElem?_take_of_lt h1] at hx'
    exact hq k x x' hx hx'
  · rw [List.getElem?_append_right (by rw [hil]; omega), hil] at hx'
    by_cases h2 : k < runE L i
    · rw [List.getElem?_append_left (by rw [hsl]; omega)] at hx'
      have hm := insL_memG.1 (List.mem_of_getElem? hx')
      rw [hd] at hm
      have hxs : x ∈ (L.drop i).take (runE L i - i) := by
        refine List.mem_of_getElem? (i := k - i) ?_
        rw [List.getElem?_take_of_lt (by omega), List.getElem?_drop, show i + (k - i) = k by omega]
        exact hx
      exact ⟨(runE_same hy hxs).trans (runE_same hy hm).symm, .inl (hN _ (List.mem_map_of_mem hxs))⟩
    · rw [List.getElem?_append_right (by rw [hsl]; omega), hsl, List.getElem?_drop, show runE L i + (k - i - (runE L i - i)) = k by omega] at hx'
      have e : acc[k]? = L[k]? := by
        have h9 := congrArg (fun l => l[k - i]?) hd
        simp only [List.getElem?_drop] at h9
        rw [show i + (k - i) = k by omega] at h9
        exact h9
      rw [e, hx] at hx'
      obtain rfl := Option.some.inj hx'
      exact ⟨rfl, .inr rfl⟩
theorem decV_alike {f : Fl} {T : ByteArray → Int} {L : List Sd} {N : List ByteArray} : ∀ (i : Nat) (acc : List Sd), acc.length = L.length → acc.drop i = L.drop i → Alike N L acc → (∀ g ∈ grpL f L i, ∀ s ∈ nmsOf L g, s ∈ N) → Alike N L ((grpL f L i).foldl (sortG T) acc) := by
  intro i acc hl hd ha hN
  by_cases h : i < L.length
  · have hgt := runE_gt L i
    rw [grpL_at h] at hN ⊢
    have hdE : ∀ acc' : List Sd, acc'.drop i = L.drop i → acc'.drop (runE L i) = L.drop (runE L i) := fun acc' h9 => by
      have h8 := congrArg (fun l => l.drop (runE L i - i)) h9
      simp only [List.drop_drop] at h8
      rw [show i + (runE L i - i) = runE L i by omega] at h8
      exact h8
    by_cases hc : cls f i ≠ cls f (runE L i - 1)
    · rw [if_pos hc] at hN ⊢
      rw [List.foldl_append]
      have hle := runE_le h
      have hs := sortG_alike (T := T) h hl hd ha (hN _ (List.mem_append_left _ (List.mem_singleton.2 rfl)))
      refine decV_alike (runE L i) _ ?_ ?_ hs (fun g hg => hN g (List.mem_append_right _ hg))
      · show (sortG T acc (i, runE L i)).length = L.length
        rw [sortG_len (by show i ≤ runE L i; omega), hl]
      · show (sortG T acc (i, runE L i)).drop (runE L i) = L.drop (runE L i)
        have e9 := sortG_drop (T := T) (L := acc) (g := (i, runE L i)) (x := runE L i) (by show i ≤ runE L i; omega) (by show runE L i ≤ acc.length; omega) (Nat.le_refl _)
        rw [e9]
        exact hdE acc hd
    · rw [if_neg hc] at hN ⊢
      rw [List.nil_append] at hN ⊢
      exact decV_alike (runE L i) acc hl (hdE acc hd) ha hN
  · rw [grpL_end (by omega)]
    exact ha
termination_by i => L.length - i
decreasing_by all_goals (have := runE_gt L i; omega)
theorem alike_refl {N : List ByteArray} (L : List Sd) : Alike N L L := alike_of rfl (fun k x x' h1 h2 => by rw [h1] at h2; obtain rfl := Option.some.inj h2; exact ⟨rfl, .inr rfl⟩)
theorem faster_alike {N : List ByteArray} (t : Int) : ∀ {l l' : List Sd}, Alike N l l' → fasterN t l = fasterN t l'
  | [], [], _ => rfl
  | [], _ :: _, h => h.elim
  | _ :: _, [], h => h.elim
  | x :: l, x' :: l', ⟨h1, h2⟩ => by
    have ih := faster_alike t h2
    unfold fasterN at *
    rw [List.filter_cons, List.filter_cons, h1.1]
    split <;> simp [ih]
def PcA (N : List ByteArray) (a b : Pc) : Prop := b.fin = a.fin ∧ b.rk = a.rk ∧ (a.who ∈ N ∨ b = a)
theorem plc_alike {N : List ByteArray} {f : Fl} {L L' : List Sd} (hr : ∀ t, rnkS L t = rnkS L' t) : ∀ {l l' : List Sd} (i : Nat), Alike N l l' → (plc f L i l).length = (plc f L' i l').length ∧ ∀ (k : Nat) a b, (plc f L i l)[k]? = some a → (plc f L' i l')[k]? = some b → PcA N a b
  | [], [], i, _ => ⟨rfl, fun k a b h => by simp [plc] at h⟩
  | [], _ :: _, _, h => h.elim
  | _ :: _, [], _, h => h.elim
  | x :: l, x' :: l', i, ⟨h1, h2⟩ => by
    obtain ⟨ih1, ih2⟩ := plc_alike (f := f) hr (i + 1) h2
    unfold plc
    by_cases hc : 0 ≤ cls f i
    · rw [if_pos hc, if_pos hc]
      refine ⟨by simp [ih1], fun k a b ha hb => ?_⟩
      cases k with
      | zero =>
        obtain rfl : (⟨x.who, cls f i, rnkS L x.time⟩ : Pc) = a := by simpa using ha
        obtain rfl : (⟨x'.who, cls f i, rnkS L' x'.time⟩ : Pc) = b := by simpa using hb
        refine ⟨rfl, by show rnkS L' x'.time = rnkS L x.time; rw [hr, h1.1], ?_⟩
        rcases h1.2 with h | h
        · exact .inl h
        · exact .inr (by rw [h, hr])
      | succ k => exact ih2 k a b (by simpa using ha) (by simpa using hb)
    · rw [if_neg hc, if_neg hc, List.nil_append, List.nil_append]
      exact ⟨ih1, ih2⟩
theorem dec_law (f : Fl) (T : ByteArray → Int) (l : List Sd) : (plc f (decV f T (finL l)) 0 (decV f T (finL l))).length = (plcV f l).length ∧ ∀ (k : Nat) a b, (plcV f l)[k]? = some a → (plc f (decV f T (finL l)) 0 (decV f T (finL l)))[k]? = some b → PcA (offV f (finL l)).flatten a b := by
  have hA : Alike (offV f (finL l)).flatten (finL l) (decV f T (finL l)) := by
    refine decV_alike 0 (finL l) rfl rfl (alike_refl _) (fun g hg s hs => ?_)
    rw [List.mem_flatten]
    exact ⟨nmsOf (finL l) g, List.mem_map_of_mem hg, hs⟩
  have hr : ∀ t, rnkS (finL l) t = rnkS (decV f T (finL l)) t := fun t => by unfold rnkS; rw [faster_alike t hA]
  obtain ⟨h1, h2⟩ := plc_alike (f := f) hr 0 hA
  exact ⟨h1.symm, h2⟩
structure K39 (w : World) (A O : Option Addr) (n m : Nat) (x off : List Sd) (b4 : Nat) (f : Fl) (wx : World) : Prop where
  sd : RSd wx A n x
  of_ : RSd wx O m off
  fb : FinB b4 f wx
  bel : Below w.heap.size w wx
theorem K39.below {w : World} {A O : Option Addr} {n m : Nat} {x off : List Sd} {b4 : Nat} {f : Fl} {wx w' : World} (h : K39 w A O n m x off b4 f wx) (B : Below wx.heap.size wx w') : K39 w A O n m x off b4 f w' := ⟨h.sd.below B, h.of_.below B, FinB.keep _ _ h.fb B, below_next h.bel B⟩
set_option maxHeartbeats 6400000 in
set_option maxRecDepth 100000 in
theorem swimOffsDecide_walk (a0 : Option Addr) (len0 cap0 : Nat) (z0 : List Int) (w : World) (w0 : IsRow .i64 w a0 len0 cap0 z0) (htab : Tb w) :
    Calls Tryz.prog 4 #[.slice a0 len0 cap0] w fun e w' => e = .returned (.bool true) ∧ Below w.heap.size w w' := by
  have hs := law_start w0
  clear w0
  generalize z0.take len0 = zs at *
  go_enter Tryz.func4, Tryz.ntmps4
  go_wp2_with fail
  have hs' : St (w.alloc (.cells #[.slice a0 len0 cap0, .int .i64 0] 25)) w.heap.size zs 0 := hs
  have hB1 := below_new w (.cells #[.slice a0 len0 cap0, .int .i64 0] 25)
  refine (finalOf_c _ zs 0 _ hs' (by omega)).mono ?_; rintro e w2 ⟨sz, mn, rs, k2, rfl, b0, b1, b2, s2, hk2, g2⟩
  have hB2 := hB1.trans (grown_below g2 (Nat.le_refl _) hB1.size)
  clear hs hs' hB1 g2
  go_wp2_with fail
  refine (rightSeeds_c _ zs k2 12 _ w s2 (by omega) (by omega) htab hB2 (Nat.le_refl _)).mono ?_; rintro e w3 ⟨A, n, c, x, k3, rfl, hx, hx0, hn, s3, hk3, g3, _⟩
  have hB3 := hB2.trans (grown_below g3 (Nat.le_refl _) hB2.size)
  clear s2 g3 hB2 htab
  have hf4 : FinB w3.heap.size ⟨sz, mn, rs⟩ (w3.alloc (.cells #[.int .i64 sz, .int .i64 mn, .int .i64 rs] 27)) := heap_alloc_new w3 _
  have hx4 := hx.alloc (.cells #[.int .i64 sz, .int .i64 mn, .int .i64 rs] 27)
  have s4 := s3.alloc (.cells #[.int .i64 sz, .int .i64 mn, .int .i64 rs] 27)
  have hB4 := hB3.alloc hB3.size (.cells #[.int .i64 sz, .int .i64 mn, .int .i64 rs] 27)
  have hg4 := s3.lt
  have hFF := Lib.hid (fun W => finalFault_c ⟨sz, mn, rs⟩ W)
  have hFk := Lib.hid (fun a v (h : FinB w3.heap.size ⟨sz, mn, rs⟩ a) B => FinB.keep a v h B)
  have hFa := Lib.hid (fun v (h : FinB w3.heap.size ⟨sz, mn, rs⟩ v) => h.at_)
  dsimp only [Fl.val] at *
  obtain ⟨z0, z1, z2⟩ := hFa.out _ hf4
  clear hx s3 hB3
  by_cases h0 : FlOk ⟨sz, mn, rs⟩
  rotate_left
  · have hE : finErr ⟨sz, mn, rs⟩ = 1 := if_neg h0
    rw [hE] at hFF
    clear hE h0
    go_wp2_with fail
    refine (hFF.out _).mono ?_; rintro e wN ⟨rfl, BN⟩
    have hB5 := below_next hB4 BN
    go_wp2_with fail
    refine (ready_c _).mono ?_; rintro e wM ⟨rfl, BM⟩
    have hB := below_next hB5 BM
    go_wp2
    go_ret
    exact ⟨rfl, hB⟩
  have hE : finErr ⟨sz, mn, rs⟩ = 0 := if_pos h0
  rw [hE] at hFF
  have hOff := Lib.hid (fun W k h hs hk => offSeeds_c ⟨sz, mn, rs⟩ A n c x w.heap.size zs k W h hs (by omega) hk)
  dsimp only [Fl.val] at *
  clear hE
  go_wp2_with fail
  generalize w3.alloc (.cells #[.int .i64 sz, .int .i64 mn, .int .i64 rs] 27) = w4 at *
  generalize w3.heap.size = b4 at *
  refine (hFF.out _).mono ?_; rintro e w5 ⟨rfl, B5⟩
  have hf5 := hFk.out _ _ hf4 B5
  have hx5 := hx4.below B5
  have s5 := s4.below B5
  have hB5 := below_next hB4 B5
  obtain ⟨z0, z1, z2⟩ := hFa.out _ hf5
  clear hf4 hx4 s4 hB4 B5 hFF
  go_wp2_with fail
  refine (hOff.out _ _ hx5 s5 (by omega)).mono ?_; rintro e w6 ⟨O, m, d, off, k6, rfl, ho6, hm6, s6, hk6, g6⟩
  have hlo := own_len sdE_len (by decide) ho6
  have K : K39 w A O n m x off b4 ⟨sz, mn, rs⟩ w6 := ⟨hx5.keep (T := 25) (by decide) (s5.keep g6), RN.of_own sdE_len ho6 hlo (by omega), blk_grown hf5 g6 (fun e => by have := Option.some.inj e; omega), hB5.trans (grown_below g6 (Nat.le_refl _) hB5.size)⟩
  clear z0 z1 z2 hf5 hx5 s5 hB5 ho6 s6 g6 hOff hFk
  have hSw := Lib.hid (fun W (h : K39 w A O n m x off b4 ⟨sz, mn, rs⟩ W) => swimOff_c ⟨sz, mn, rs⟩ h0 A n c x W h.sd (by omega) hx0)
  have hFi := Lib.hid (fun W (h : K39 w A O n m x off b4 ⟨sz, mn, rs⟩ W) => finals_c ⟨sz, mn, rs⟩ h0 A n c x W h.sd (by omega) hx0)
  have hDf := Lib.hid (fun W (h : K39 w A O n m x off b4 ⟨sz, mn, rs⟩ W) => decidedFault_c ⟨sz, mn, rs⟩ h0 A O n c m d x off W h.sd h.of_ (by omega) hx0)
  have hDc := Lib.hid (fun W hE (h : K39 w A O n m x off b4 ⟨sz, mn, rs⟩ W) => decided_c ⟨sz, mn, rs⟩ h0 A O n c m d x off W h.sd h.of_ (by omega) hx0 hE)
  obtain ⟨hlw1, hlw2⟩ := dec_law ⟨sz, mn, rs⟩ (timeAt off) x
  have hlw1' := Lib.hid hlw1
  have hlw2' := Lib.hid hlw2
  have hLe := Lib.hid (fun L hL => off_lensX (f := ⟨sz, mn, rs⟩) (l := x) (L := L) hL)
  have hxl := Lib.hid K.sd.len
  have hKB := Lib.hid (fun W (h : K39 w A O n m x off b4 ⟨sz, mn, rs⟩ W) => h.bel)
  have hKb := Lib.hid (fun W w' (h : K39 w A O n m x off b4 ⟨sz, mn, rs⟩ W) (B : Below W.heap.size W w') => h.below B)
  have hKf := Lib.hid (fun W (h : K39 w A O n m x off b4 ⟨sz, mn, rs⟩ W) => h.fb.at_)
  clear hlw1 hlw2 h0
  dsimp only [Fl.val] at *
  generalize K39 w A O n m x off b4 ⟨sz, mn, rs⟩ = KK at *
  generalize plc ⟨sz, mn, rs⟩ (decV ⟨sz, mn, rs⟩ (timeAt off) (finL x)) 0 (decV ⟨sz, mn, rs⟩ (timeAt off) (finL x)) = QV at *
  generalize plcV ⟨sz, mn, rs⟩ x = PV at *
  generalize offV ⟨sz, mn, rs⟩ (finL x) = OV at *
  obtain ⟨z0, z1, z2⟩ := hKf.out _ K
  go_wp2_with fail
  refine (hSw.out _ K).mono ?_; rintro e w7 ⟨u7, rfl, A7, c7, L, rfl, rL, _, hLi, B7⟩
  replace K := hKb.out _ _ K B7
  clear z0 z1 z2 B7 hSw
  obtain ⟨z0, z1, z2⟩ := hKf.out _ K
  go_wp2_with fail
  refine (hFi.out _ K).mono ?_; rintro e w8 ⟨A8, n8, c8, rfl, rP, hn8, B8⟩
  replace K := hKb.out _ _ K B8
  replace rL := rL.below B8
  clear z0 z1 z2 B8 hFi
  obtain ⟨z0, z1, z2⟩ := hKf.out _ K
  go_wp2_with fail
  refine (hDf.out _ K).mono ?_; rintro e w9 ⟨rfl, B9⟩
  replace K := hKb.out _ _ K B9
  replace rL := rL.below B9
  replace rP := rP.below B9
  clear z0 z1 z2 B9 hDf
  by_cases hE : decE OV.flatten off = 0
  rotate_left
  · have hb : (decE OV.flatten off != 0) = true := by simpa using hE
    clear hDc hE
    generalize decE OV.flatten off = EE at *
    go_wp2_with fail
    refine (ready_c _).mono ?_; rintro e wM ⟨rfl, BM⟩
    have hB := below_next (hKB.out _ K) BM
    go_wp2
    go_ret
    exact ⟨rfl, hB⟩
  have hDc' := Lib.hid (fun W h => hDc.out W hE h)
  rw [hE]
  clear hDc hE
  obtain ⟨z0, z1, z2⟩ := hKf.out _ K
  go_wp2_with fail
  refine (hDc'.out _ K).mono ?_; rintro e y1 ⟨A1, n1, c1, rfl, rQ, C1⟩
  replace K := hKb.out _ _ K C1
  replace rL := rL.below C1
  replace rP := rP.below C1
  clear z0 z1 z2 C1 hDc'
  have hnn : n1 = n8 := by rw [← rQ.len, ← rP.len, hlw1'.out]
  subst hnn
  obtain ⟨hL1, hL2⟩ := hLe.out L hLi
  rw [hxl.out] at hL1 hL2
  have hCo := Lib.hid (concatN_c A7 L.length c7 L y1 rL (by omega) (fun y hy => Nat.le_trans (hL2 y hy) (by omega)))
  have hnb : n1 ≤ 500 := by omega
  clear hL1 hL2 rL hLe
  go_wp2_with fail
  refine hCo.out.mono ?_; rintro e y2 ⟨A9, c9, rfl, rN, C2⟩
  replace K := hKb.out _ _ K C2
  replace rP := rP.below C2
  replace rQ := rQ.below C2
  have hfl : L.flatMap Nx.ids = OV.flatten := by rw [← hLi, List.flatMap_def]
  rw [hfl] at rN
  rw [hfl]
  clear hCo C2 hLi hfl
  generalize OV.flatten = NM at *
  have hBy := hKB.out _ K
  clear K hKb hKB hKf hlw1'
  go_wp2_with fail
  go_loopw [14, 75] (fun _ iv wx => ∃ j : Nat, j ≤ n1 ∧ iv = .int .i64 j ∧ RPc wx A8 n1 PV ∧ RPc wx A1 n1 QV ∧ RS 9 wx A9 NM.length NM ∧ Below w.heap.size w wx) (fun _ iv _ => n1 - (intOf iv).toNat)
  case atStart => exact ⟨0, Nat.zero_le _, rfl, rP, rQ, rN, hBy⟩
  case round =>
    clear rP rQ rN hBy
    rename World => wx
    obtain ⟨j, hj, rfl, rP, rQ, rN, hB⟩ := hrel
    by_cases hlt : j < n1
    · have hlti : (j : Int) < n1 := by omega
      obtain ⟨bp, op, a, rfl, hbl, ha, c0, c1', c2'⟩ := RPc_at3 rP hlt
      have hbd := below_new wx (.cells (pcE a).toArray 46)
      have rP2 := rP.below hbd
      have rQ2 := rQ.below hbd
      have rN2 := rN.below hbd
      have hB2 := below_next hB hbd
      obtain ⟨bq, oq, b, rfl, hbq, hb, q0, q1, q2⟩ := RPc_at3 rQ2 hlt
      obtain ⟨e1, e2, e3⟩ := hlw2'.out j a b ha hb
      have hn9 := heap_alloc_new wx (.cells (pcE a).toArray 46)
      have hCn := Lib.hid (fun W h => containsN_c A9 NM.length c9 NM a.who W h)
      have hcs : Lib.containsS NM a.who = true ∨ (Lib.containsS NM a.who = false ∧ b = a) := by
        rcases e3 with h | h
        · exact .inl ((Lib.containsS_iff _ _).2 h)
        · cases hcc : Lib.containsS NM a.who
          · exact .inr ⟨rfl, h⟩
          · exact .inl rfl
      obtain ⟨aw, af, ar⟩ := a
      obtain ⟨bw, bf, br⟩ := b
      dsimp only [pcE] at *
      subst e1 e2
      clear ha hb e3 rP rQ rN hB hbd
      have x0 := (blk_facts hn9).1 0
      have x1 := (blk_facts hn9).1 1
      have x2 := (blk_facts hn9).1 2
      have hnf : (bf != bf) = false := by simp
      have hnr : (br != br) = false := by simp
      clear hn9
      go_wp2_with fail
      generalize wx.alloc (.cells #[.string aw, .int .i64 bf, .int .i64 br] 46) = w5 at *
      generalize wx.heap.size = b5 at *
      clear c0 c1' c2'
      rcases hcs with hc | ⟨hc, hba⟩
      · rw [hc] at hCn
        go_quiet (first | (go_at_call 31; exact Calls.quiet_of_same ((hCn.out _ (rN2.below (below_drewN (Below.refl _ _) _))).mono fun _ _ ⟨h1, h2⟩ => ⟨h1, h2.symm⟩)))
        go_wp2
        go_roundw
        case rel => exact ⟨j + 1, by omega, by go_num, rP2.below (below_drewN (Below.refl _ _) _), rQ2.below (below_drewN (Below.refl _ _) _), rN2.below (below_drewN (Below.refl _ _) _), below_drewN hB2 _⟩
        case measure => simp [intOf]; omega
      · rw [hc] at hCn
        injection hba with hba1
        subst hba1
        go_quiet (first | (go_at_call 31; exact Calls.quiet_of_same ((hCn.out _ (rN2.below (below_drewN (Below.refl _ _) _))).mono fun _ _ ⟨h1, h2⟩ => ⟨h1, h2.symm⟩)))
        go_wp2
        go_roundw
        case rel => exact ⟨j + 1, by omega, by go_num, rP2.below (below_drewN (Below.refl _ _) _), rQ2.below (below_drewN (Below.refl _ _) _), rN2.below (below_drewN (Below.refl _ _) _), below_drewN hB2 _⟩
        case measure => simp [intOf]; omega
    · obtain rfl : j = n1 := by omega
      go_wp2_with fail
      refine (ready_c _).mono ?_; rintro e wM ⟨rfl, BM⟩
      have hB9 := below_next hB BM
      go_wp2
      go_ret
      exact ⟨rfl, hB9⟩
end Go.Proofs.YtjafcnblgeibpaaGreatDoor
