/- LeadersAreFarthest: who leads is first in Order, and whoever leads at the end has the least time: the walk. -/
import Derived.Test.YtmnidnmdjkfhnaaGreatDoorKept
import Derived.Test.YtmnidnmdjkfhnaaGreatDoorP21
import Derived.Test.YtmnidnmdjkfhnaaGreatDoorLeadL
import Derived.Test.YtmnidnmdjkfhnaaGreatDoorReady
import Derived.Test.YtmnidnmdjkfhnaaGreatDoorDraws
import Derived.Test.YtmnidnmdjkfhnaaGreatDoorLawBase
import Derived.Test.YtmnidnmdjkfhnaaGreatDoorRegInv2
import Derived.Test.YtmnidnmdjkfhnaaGreatDoorRows2
import Derived.Deep.RegionHeld3
import Derived.Deep.DeepCutAuto
import Derived.Laws.StructEq
namespace Go.Proofs.YtmnidnmdjkfhnaaGreatDoor
open Go.RowKit
set_option linter.unusedVariables false

/-- phases in memory -/
def RPh (w : World) (A : Option Addr) (n : Nat) (P : List Ph) : Prop := RN 3 phE 86 w A n P ∧ ∀ x ∈ P, RS 9 w x.A x.n x.who
section
variable {w w' : World} {A : Option Addr} {n : Nat} {P : List Ph}
theorem RPh.below (h : RPh w A n P) (hb : Below w.heap.size w w') : RPh w' A n P := ⟨h.1.below hb, fun x hx => (h.2 x hx).below hb⟩
theorem RPh.stream {g k : Nat} {zs : List Int} (h : RPh w A n P) (hs : St w g zs k) (hg : w.grownBy w' (some g)) : RPh w' A n P := ⟨h.1.keep (T := 25) (by decide) (hs.keep hg), fun x hx => (h.2 x hx).keep (T := 25) (by decide) (hs.keep hg)⟩
theorem RPh.of_ls {w0 : World} {b2 B0 c : Nat} {rc : Array Value} (h : LS w0 b2 B0 rc (.slice A P.length c) P w) (hn : P.length ≤ 1000000) (hx : ∀ x ∈ P, x.who.length ≤ 1000) : RPh w A P.length P :=
  ⟨RN.of_own phE_len h.o rfl (by omega), fun x hxm => R1.of_own (h.wh x hxm) (by have h1 := (h.wh x hxm).1; rw [List.length_map] at h1; have := hx x hxm; omega)⟩
theorem RPh.at3 (h : RPh w A n P) {k : Nat} (hk : k < n) : ∃ b off x, A = some ⟨b, off, none⟩ ∧ b < w.heap.size ∧ P[k]? = some x ∧ w.cell? ⟨b, off + k * 3, none⟩ = some (.int .i64 x.f) ∧ w.cell? ⟨b, off + k * 3 + 1, none⟩ = some (.int .i64 x.t) ∧ w.cell? ⟨b, off + k * 3 + 2, none⟩ = some (.slice x.A x.n x.c) ∧ RS 9 w x.A x.n x.who := by
  obtain ⟨b, off, x, hA, hb, hx, hc⟩ := h.1.at_ hk
  exact ⟨b, off, x, hA, hb, hx, hc 0 _ rfl, hc 1 _ rfl, hc 2 _ rfl, h.2 x (List.mem_of_getElem? hx)⟩
end
theorem RPh.cells {w : World} {b o n k : Nat} {P : List Ph} {x : Ph} (h : RPh w (some ⟨b, o, none⟩) n P) (hx : P[k]? = some x) : w.cell? ⟨b, o + k * 3, none⟩ = some (.int .i64 x.f) ∧ w.cell? ⟨b, o + k * 3 + 1, none⟩ = some (.int .i64 x.t) ∧ w.cell? ⟨b, o + k * 3 + 2, none⟩ = some (.slice x.A x.n x.c) ∧ RS 9 w x.A x.n x.who := by
  obtain ⟨b', o', x', hA, _, hx', c0, c1, c2, c3⟩ := h.at3 (h.1.mem_at hx)
  injection hA with hA
  injection hA with h1 h2
  subst h1 h2
  rw [hx] at hx'
  injection hx' with hx'
  subst hx'
  exact ⟨c0, c1, c2, c3⟩
theorem RWh.cells {w : World} {b o n k : Nat} {l : List Wh} {x : Wh} (h : RWh w (some ⟨b, o, none⟩) n l) (hx : l[k]? = some x) : w.cell? ⟨b, o + k * 3, none⟩ = some (.string x.who) ∧ w.cell? ⟨b, o + k * 3 + 1, none⟩ = some (.int .i64 x.num) ∧ w.cell? ⟨b, o + k * 3 + 2, none⟩ = some (.int .i64 x.den) := by
  obtain ⟨b', o', x', hA, _, hx', hc⟩ := h.at_ (h.mem_at hx)
  injection hA with hA
  injection hA with h1 h2
  subst h1 h2
  rw [hx] at hx'
  injection hx' with hx'
  subst hx'
  exact ⟨hc 0 _ rfl, hc 1 _ rfl, hc 2 _ rfl⟩
theorem at0_c (r : Race) (A : Option Addr) (n c : Nat) (l : List Sw) (t : Int) (w : World) (h : RSw w A n l) (hn : n ≤ 19) (h0 : fieldErr r l = 0) (t0 : 0 ≤ t) (t1 : t ≤ 360000) :
    Calls Tryz.prog 19 #[r.val, .slice A n c, .int .i64 t] w fun e w' => ∃ A' c', e = .returned (.tuple #[.slice A' n c', .int .i64 0]) ∧ RWh w' A' n (whL r t l) ∧ Below w.heap.size w w' := by
  refine (atA_c r A n c l t w h hn).mono ?_
  rintro e w' ⟨A', n', c', he, _, hr, hB⟩
  have hT : timeE r l t = 0 := by unfold timeE; rw [if_pos h0, if_pos ⟨t0, t1⟩]
  have hL : atLs r l t = whL r t l := by unfold atLs; rw [if_pos hT]
  rw [hL] at hr
  rw [hT] at he
  have hnn : n' = n := by
    have h1 := RN.len hr
    rw [(wheres_ok h0 t0 t1).1, h.len] at h1
    exact h1.symm
  subst hnn
  exact ⟨A', c', he, hr, hB⟩
theorem containsS_c (A : Option Addr) (n c : Nat) (l : List ByteArray) (x : ByteArray) (w : World) (h : RS 9 w A n l) :
    Calls Tryz.prog 15 #[.slice A n c, .string x] w fun e w' => e = .returned (.bool (Lib.containsS l x)) ∧ w' = w := by
  have hl := h.len
  have hb := h.bd
  rcases Nat.eq_zero_or_pos n with h0 | hp
  · subst h0
    obtain rfl : l = [] := List.eq_nil_of_length_eq_zero hl
    exact (Tryz.slices_Contains_string_empty A c x w)
  · obtain ⟨b, off, rfl, hc⟩ := shelf1 h hp
    refine (Tryz.slices_Contains_string b off n c l x w (by omega) (by omega) hc).mono fun _ _ ⟨he, hw⟩ => ⟨?_, hw⟩
    rw [he, List.take_of_length_le (by omega)]
def fEq (a b c d : Int) : Bool := decide (a = c ∧ b = d)
theorem fEq_run (a b c d : Int) (w : World) : (binOp .eql 65 (.agg #[.int .i64 a, .int .i64 b]) (.agg #[.int .i64 c, .int .i64 d])).run Tryz.prog w = .ok (.bool (fEq a b c d)) w := by
  go_simp
  unfold fEq
  by_cases h1 : a = c <;> by_cases h2 : b = d <;> simp [h1, h2]
structure KP (w : World) (b : Nat) (r : Race) (A : Option Addr) (n : Nat) (l : List Sw) (zs : List Int) (pA : Option Addr) (m : Nat) (P : List Ph) (k : Nat) (wx : World) : Prop where
  k : KF w b r A n l zs k wx
  p : RPh wx pA m P
section
variable {w wx w' : World} {b : Nat} {r : Race} {A : Option Addr} {n : Nat} {l : List Sw} {zs : List Int} {pA : Option Addr} {m : Nat} {P : List Ph} {k : Nat}
theorem KP.below (h : KP w b r A n l zs pA m P k wx) (B : Below wx.heap.size wx w') : KP w b r A n l zs pA m P k w' := ⟨h.k.below B, h.p.below B⟩
theorem KP.stream {k' : Nat} (h : KP w b r A n l zs pA m P k wx) (hs : St w' w.heap.size zs k') (hg : wx.grownBy w' (some w.heap.size)) : KP w b r A n l zs pA m P k' w' := ⟨h.k.stream hs hg, h.p.stream h.k.st hg⟩
end
set_option maxHeartbeats 6400000 in
set_option maxRecDepth 100000 in
theorem leadersAreFarthest_walk (a0 : Option Addr) (len0 cap0 : Nat) (z0 : List Int) (w : World) (w0 : IsRow .i64 w a0 len0 cap0 z0) :
    Calls Tryz.prog 6 #[.slice a0 len0 cap0] w fun e w' => e = .returned (.bool true) ∧ Below w.heap.size w w' := by
  have hs := law_start w0
  clear w0
  generalize z0.take len0 = zs at *
  go_enter Tryz.func6, Tryz.ntmps6
  go_wp2_with fail
  have hs' : St (w.alloc (.cells #[.slice a0 len0 cap0, .int .i64 0] 25)) w.heap.size zs 0 := hs
  refine (plainRace_c w.heap.size zs 0 _ hs' (by omega)).mono ?_; rintro e w1 ⟨rfl, s1, g1⟩
  rw [plainRace_2] at s1
  have hB : Below w.heap.size w w1 := (below_new w _).trans (grown_below g1 (Nat.le_refl _) (by simp))
  clear hs hs' g1
  have hok := plainRace_ok zs 0
  have hRF := Lib.hid (fun l h => And.intro (right_field (zs := zs) (k := 0) (l := l) h) (fun x hx => (right_rise (zs := zs) (k := 0) (l := l) h (x := x) hx).2))
  generalize (plainRace zs 0).1 = r at *
  have hlb := lenV_bd hok
  have s2 := s1.alloc (.cells r.cells 27)
  have hB2 := hB.alloc hB.size (.cells r.cells 27)
  have hb2 := heap_alloc_new w1 (.cells r.cells 27)
  have hRi := Lib.hid (fun W h hk => rightField_c w.heap.size zs (0 + 9) r W h hk hok)
  have hLe := Lib.hid (fun A n c M l W h h0 h1 h2 h3 h4 h5 h6 N h7 h8 => leads0_c r A n c M l W h h0 h1 h2 h3 h4 h5 h6 N h7 h8)
  have hAt := Lib.hid (fun A n c l t W h hn h0 t0 t1 => at0_c r A n c l t W h hn h0 t0 t1)
  have hCo := Lib.hid (fun A n c l x W h => containsS_c A n c l x W h)
  have hPo := Lib.hid (fun l N P h1 h2 h3 h4 => phases_ok (r := r) (l := l) (N := N) (P := P) h1 h2 h3 h4)
  have hWo := Lib.hid (fun l t h1 h2 h3 => wheres_ok (r := r) (l := l) (t := t) h1 h2 h3)
  have hLb := Lib.hid (fun l N P (h : PhIs r l N P) => h.len)
  have hLn := Lib.hid (fun t l => show (ldN (ldL r t l)).length ≤ l.length by unfold ldN; rw [List.length_map]; exact ldL_len r t l)
  have hFe := Lib.hid (fun l (h : fieldErr r l = 0) => fieldErr_ok h)
  have hFp := Lib.hid (fun l M h h1 h2 => first_pos (r := r) (l := l) (M := M) h h1 h2)
  have hSb := Lib.hid (fun sp (h : wholeErr r sp = 0) => (splits_bd (wholeErr_ok h).1).2.2)
  generalize hb4 : w1.heap.size = b4 at *
  have hlt4 : w.heap.size < b4 := by have := s1.lt; omega
  obtain ⟨M, hM⟩ : ∃ M : Nat, lenV r = M := ⟨(lenV r).toNat, by omega⟩
  have hMl := Lib.hid hM
  rw [hM] at hlb
  simp only [hM, Int.toNat_natCast] at hRF
  clear hM s1 hB hok
  generalize RightF zs r = RF at *
  have hKm := Lib.hid (fun A n l k pA m P wx (h1 : wx.heap[b4]? = some (.cells r.cells 27 (0, 0))) h2 h3 h4 h5 => (KP.mk (KF.mk h1 h2 h3 h4) h5 : KP w b4 r A n l zs pA m P k wx))
  have hKr : ∀ A n l pA m P k wx, KP w b4 r A n l zs pA m P k wx → wx.heap[b4]? = some (.cells r.cells 27 (0, 0)) := fun A n l pA m P k wx h => h.k.rc
  have hKF : ∀ A n l pA m P k wx, KP w b4 r A n l zs pA m P k wx → RSw wx A n l := fun A n l pA m P k wx h => h.k.fd
  have hKP : ∀ A n l pA m P k wx, KP w b4 r A n l zs pA m P k wx → RPh wx pA m P := fun A n l pA m P k wx h => h.p
  have hKS : ∀ A n l pA m P k wx, KP w b4 r A n l zs pA m P k wx → St wx w.heap.size zs k := fun A n l pA m P k wx h => h.k.st
  have hKB : ∀ A n l pA m P k wx, KP w b4 r A n l zs pA m P k wx → Below w.heap.size w wx := fun A n l pA m P k wx h => h.k.bel
  have hKb : ∀ A n l pA m P k wx w', KP w b4 r A n l zs pA m P k wx → Below wx.heap.size wx w' → KP w b4 r A n l zs pA m P k w' := fun _ _ _ _ _ _ _ _ _ h hb => h.below hb
  have hKs : ∀ A n l pA m P k k' wx w', KP w b4 r A n l zs pA m P k wx → St w' w.heap.size zs k' → wx.grownBy w' (some w.heap.size) → KP w b4 r A n l zs pA m P k' w' := fun _ _ _ _ _ _ _ _ _ _ h hs hg => h.stream hs hg
  generalize KP w b4 r = KK at *
  obtain ⟨key, metres, stroke, course, legs, sex, young, old⟩ := r
  dsimp only [Race.val, Race.cells] at *
  have zc := (blk_facts hb2).1
  go_wp2_with fail
  refine (hRi.out _ s2 (by omega)).mono ?_; rintro e w3 ⟨A, n, c, l, k3, rfl, hown, hll, hn4, hri, hF, s3, hk3, g3⟩
  have hb3 := s2.keep g3 b4 _ _ (0, 0) (by decide) hb2
  have hfd := RSw.of_own hown hll (by omega) hri
  have hB3 := hB2.trans (grown_below g3 (Nat.le_refl _) hB2.size)
  clear zc hRi s2 hB2 hb2 hown hri g3
  by_cases h0 : n = 0
  · subst h0
    clear hKm hKr hKF hKB hKb hKs hKS hKP hLe hAt hPo hWo hLb hLn hFe hFp hSb hRF
    go_wp2_with fail
    refine (ready_c _).mono ?_; rintro e w4 ⟨rfl, B4⟩
    have hB4 := below_next hB3 B4
    go_wp2
    go_ret
    exact ⟨rfl, hB4⟩
  · have hn1 : 1 ≤ n := by omega
    have hne : ((n : Int) == 0) = false := beq_eq_false_iff_ne.2 (by omega)
    obtain ⟨hfe, hlen⟩ := hRF.out l hF
    obtain ⟨_, _, hwe⟩ := hFe.out l hfe
    have hxn : ∀ x ∈ l, x.n = M := fun x hx => by rw [← (hfd.2 x hx).len]; exact hlen x hx
    have hxb : ∀ x ∈ l, ∀ y ∈ x.sp, 0 ≤ y ∧ y ≤ 360000 := fun x hx => hSb.out _ (hwe x hx)
    have hln : l ≠ [] := by intro e; rw [e] at hll; simp at hll; omega
    obtain ⟨hN0, hN1⟩ := hFp.out l M hfe hMl.out hlen
    obtain ⟨N, hN⟩ : ∃ N : Nat, firstG M l = N := ⟨(firstG M l).toNat, by omega⟩
    have hLe' := Lib.hid (fun W h => hLe.out A n c M l W h hfe hn1 hMl.out (by omega) (by omega) hxn hxb N hN (by omega))
    have zc := (blk_facts hb3).1
    go_wp2_with fail
    refine (hLe'.out _ hfd).mono ?_; rintro e w4 ⟨pA, pc, P, rfl, hLS, hPI⟩
    obtain ⟨hP0, hP1, hP2, hP3, hP4⟩ := hPo.out l N P hln hfe (by omega) hPI
    have hPl := hLb.out _ _ _ hPI
    have hwl : ∀ x ∈ P, x.who.length ≤ 1000 := fun x hx => by
      obtain ⟨j, hj⟩ := List.mem_iff_getElem?.1 hx
      obtain ⟨_, h2, _, _, h5⟩ := hP3 j x hj
      rw [h5 x.f (Int.le_refl _) h2]
      have := hLn.out x.f l
      omega
    have K := hKm.out A n l k3 pA P.length P w4 (blk_below hb3 hLS.bel) (hfd.below hLS.bel) (s3.below hLS.bel) (below_next hB3 hLS.bel) (RPh.of_ls hLS (by omega) hwl)
    clear zc hLe hLe' hfd hb3 s3 hB3 hLS hKm hPI hPo hLb hwl hLn hRF hFe hFp hSb hlen hwe hF
    have kR := fun k wx => hKr A n l pA P.length P k wx
    have kF := fun k wx => hKF A n l pA P.length P k wx
    have kP := fun k wx => hKP A n l pA P.length P k wx
    have kS := fun k wx => hKS A n l pA P.length P k wx
    have kB := fun k wx => hKB A n l pA P.length P k wx
    have kb := fun k wx w' => hKb A n l pA P.length P k wx w'
    have ks := fun k k' wx w' => hKs A n l pA P.length P k k' wx w'
    generalize KK A n l zs pA P.length P = KK2 at *
    clear hKr hKF hKP hKS hKB hKb hKs
    clear KK
    generalize hm : P.length = m at *
    have hP1' := Lib.hid hP1
    have hP2' := Lib.hid hP2
    have hP3' := Lib.hid hP3
    have hP4' := Lib.hid hP4
    clear hP1 hP2 hP3 hP4
    have hm0 : ((m : Int) == 0) = false := beq_eq_false_iff_ne.2 (by omega)
    obtain ⟨bP, oP, y0, hpA, hbP, hy0, c0, _, _, _⟩ := (kP _ _ K).at3 (k := 0) hP0
    rw [hP1'.out y0 hy0] at c0
    subst hpA
    rw [Nat.zero_mul, Nat.add_zero] at c0
    have e1 : IntKind.i64.wrap ((M : Int) - 1) = (M : Int) - 1 := IntWalk.i64_in _ (by omega)
    have e2 : 0 ≤ (M : Int) - 1 := by omega
    have e3 : ((M : Int) - 1).toNat = M - 1 := by omega
    have e4 : (M : Int) - 1 < M := by omega
    have hN' : Hid (minG M l 360000 = N) := Lib.hid hN
    have hll' := Lib.hid hll
    have hxn' := Lib.hid hxn
    have hxb' := Lib.hid hxb
    clear hN hll hxn hxb hln h0
    go_wp2_with fail
    clear c0 hbP hy0
    go_loopw [8, 51] (fun u i wr => ∃ (k : Nat) (f : Int), k ≤ n ∧ i = .int .i64 k ∧ u = .int .i64 f ∧ 0 ≤ f ∧ f ≤ 360000 ∧ KK2 k3 wr ∧ Hid (minG M (l.drop k) f = N)) (fun _ i _ => n - (intOf i).toNat)
    case atStart => exact ⟨0, 360000, Nat.zero_le _, rfl, rfl, by decide, by decide, K, Lib.hid hN'.out⟩
    case round =>
      clear K
      obtain ⟨k, f, hk, rfl, rfl, hf0, hf1, K, hFF⟩ := hrel
      by_cases hlt : k < n
      · obtain ⟨b, off, x, hA, hbl, hx, c0, c1, hI⟩ := (kF _ _ K).at2 hlt
        subst hA
        have hxm := List.mem_of_getElem? hx
        have hMx := hxn'.out x hxm
        have hbd := hxb'.out x hxm
        have hT := Lib.hid (minG_at (E := M) f hx)
        obtain ⟨bX, oX, tX, hXA, lX, htX, cX⟩ := hI.at_ (k := M - 1) (by omega)
        have htg : gapV M x = tX := getD_of htX
        have htb := hbd _ (List.mem_of_getElem? htX)
        rw [htg] at hT
        obtain ⟨who, xA, xn, xc, xs⟩ := x
        dsimp only at *
        subst hXA
        subst hMx
        clear hx hxm hbd hI htX htg
        have hx5 := heap_alloc_new wr (.cells #[.string who, .slice (some ⟨bX, oX, none⟩) xn xc] 34)
        have cX5 : (wr.alloc (.cells #[.string who, .slice (some ⟨bX, oX, none⟩) xn xc] 34)).cell? ⟨bX, oX + (xn - 1), none⟩ = some (.int .i64 tX) := (World.cell?_alloc_lt wr _ ⟨bX, oX + (xn - 1), none⟩ (by show bX < wr.heap.size; omega)).trans cX
        have z0 := (blk_facts hx5).1 0
        have z1 := (blk_facts hx5).1 1
        have K5 := kb _ _ _ K (below_new wr (.cells #[.string who, .slice (some ⟨bX, oX, none⟩) xn xc] 34))
        clear K hx5 hP1' hP2' hP3' hP4' hAt hWo
        go_wp2_with fail
        go_roundw
        case rel => exact ⟨k + 1, min f tX, by omega, by go_num, rfl, by omega, by omega, K5, Lib.hid (by rw [← hFF.out, hT.out])⟩
        case measure => simp [intOf]; omega
      · obtain rfl : n = k := by omega
        have hFf := hFF.out
        rw [drop_end (by rw [hll'.out]; exact Nat.le_refl _)] at hFf
        have hFf2 : f = N := hFf
        subst hFf2
        clear hFF hFf hlt hN'
        obtain ⟨bP', oP', yL, hpA, hbP, hyL, _, c1, _, _⟩ := (kP _ _ K).at3 (k := m - 1) (by omega)
        rw [hP2'.out yL hyL] at c1
        injection hpA with hpA
        injection hpA with hpA1 hpA2
        subst hpA1 hpA2
        have m1 : IntKind.i64.wrap ((m : Int) - 1) = (m : Int) - 1 := IntWalk.i64_in _ (by omega)
        have m2 : 0 ≤ (m : Int) - 1 := by omega
        have m3 : ((m : Int) - 1).toNat = m - 1 := by omega
        have m4 : (m : Int) - 1 < m := by omega
        go_upto_region 17 with (fail)
        clear c1 hbP hyL e1 e2 e3 e4 m1 m2 m3 m4 hP2' hxn' hxb'
        have hk3' : k3 ≤ 10000 := by omega
        go_wp2_with fail
        go_loopw [77] (fun i wr => ∃ (jj kk : Nat), jj ≤ m ∧ i = .int .i64 jj ∧ KK2 kk wr ∧ kk ≤ k3 + jj) (fun i _ => m - (intOf i).toNat)
        case atStart => exact ⟨0, k3, Nat.zero_le _, rfl, K, by omega⟩
        case round =>
          clear K
          obtain ⟨jj, kk, hj, rfl, K, hkk⟩ := hrel
          by_cases hlt : jj < m
          · obtain ⟨bP', oP', x, hpA, hbP, hx, c0, c1, c2, hW⟩ := (kP _ _ K).at3 hlt
            injection hpA with hpA
            injection hpA with hpA1 hpA2
            subst hpA1 hpA2
            obtain ⟨hw0, hft, hf0, htN, hwho⟩ := hP3'.out jj x hx
            have hn0 : 0 < x.n := by have := hW.len; omega
            have hpv := Lib.hid (fun y (hy : P[jj - 1]? = some y) (h : 0 < jj) => hP4'.out (jj - 1) y x hy (by rw [show jj - 1 + 1 = jj by omega]; exact hx))
            obtain ⟨xf, xt, xA, xn, xc, xw⟩ := x
            dsimp only at *
            have hwho' := Lib.hid hwho
            clear hwho hx
            have hx5 := heap_alloc_new wr (.cells #[.int .i64 xf, .int .i64 xt, .slice xA xn xc] 86)
            have K5 := kb _ _ _ K (below_new wr (.cells #[.int .i64 xf, .int .i64 xt, .slice xA xn xc] 86))
            have hW5 := hW.alloc (.cells #[.int .i64 xf, .int .i64 xt, .slice xA xn xc] 86)
            have hlx : wr.heap.size < (wr.alloc (.cells #[.int .i64 xf, .int .i64 xt, .slice xA xn xc] 86)).heap.size := lt_of_heap hx5
            clear K hW
            go_upto_region 20 with (fail)
            generalize hw5 : wr.alloc (.cells #[.int .i64 xf, .int .i64 xt, .slice xA xn xc] 86) = w5 at *
            generalize hb5 : wr.heap.size = b5 at *
            clear hw5 c0 c1 c2
            have hjz : (0 : Int) ≤ (jj : Int) := by omega
            have g1 : ¬ xt ≤ xf := by omega
            have g2 : ((xn : Int) == 0) = false := beq_eq_false_iff_ne.2 (by omega)
            have g3 : (xn : Int) ≠ 0 := by omega
            go_cut [118] (fun v wx => v = .bool false ∧ KK2 kk wx ∧ wx.heap[b5]? = some (.cells #[.int .i64 xf, .int .i64 xt, .slice xA xn xc] 86 (0, 0)) ∧ RS 9 wx xA xn xw)
            case first =>
              clear hAt hWo hP3'
              by_cases hj0 : jj = 0
              · have hjn : ¬ (0 : Int) < (jj : Int) := by omega
                have hj1 := Lib.hid hj0
                clear hpv hj0
                --R20a
                refine wp_region_inv (by kernel_rfl) (fun listed a w' => ∃ xs : Nat → Value, a = { tmps := #[Value.slice a0 len0 cap0, undef, u2, Value.pointer (some { block := w.heap.size, off := 0 }), Value.pointer (some { block := b4, off := 0 }), Value.slice A n c, Value.slice (some { block := bP, off := oP }) m pc, Value.int IntKind.i64 0, Value.int IntKind.i64 ↑N, undef, u10, Value.int IntKind.i64 ↑jj, Value.pointer (some { block := b5, off := 0 }), u13, u14, u15, u16, Value.slice a0 len0 cap0, Value.agg #[Value.slice a0 len0 cap0, Value.int IntKind.i64 0], Value.pointer (some { block := w.heap.size, off := 0 }), Value.pointer (some { block := w.heap.size, off := 0 }), Value.agg #[Value.string key, Value.int IntKind.i64 metres, Value.int IntKind.i64 stroke, Value.int IntKind.i64 course, Value.int IntKind.i64 legs, Value.int IntKind.i64 sex, Value.int IntKind.i64 young, Value.int IntKind.i64 old], Value.pointer (some { block := w.heap.size, off := 0 }), Value.agg #[Value.string key, Value.int IntKind.i64 metres, Value.int IntKind.i64 stroke, Value.int IntKind.i64 course, Value.int IntKind.i64 legs, Value.int IntKind.i64 sex, Value.int IntKind.i64 young, Value.int IntKind.i64 old], Value.slice A n c, Value.slice A n c, Value.int IntKind.i64 ↑n, Value.bool false, undef, Value.tuple #[Value.slice (some { block := bP, off := oP }) m pc, Value.int IntKind.i64 0], Value.agg #[Value.string key, Value.int IntKind.i64 metres, Value.int IntKind.i64 stroke, Value.int IntKind.i64 course, Value.int IntKind.i64 legs, Value.int IntKind.i64 sex, Value.int IntKind.i64 young, Value.int IntKind.i64 old], Value.slice A n c, Value.tuple #[Value.slice (some { block := bP, off := oP }) m pc, Value.int IntKind.i64 0], Value.slice (some { block := bP, off := oP }) m pc, Value.int IntKind.i64 0, Value.int IntKind.i64 0, Value.bool false, Value.bool false, Value.slice (some { block := bP, off := oP }) m pc, Value.int IntKind.i64 ↑m, Value.bool false, Value.bool false, Value.bool false, Value.slice (some { block := bP, off := oP }) m pc, Value.pointer (some { block := bP, off := oP }), Value.pointer (some { block := bP, off := oP }), Value.int IntKind.i64 0, Value.bool false, Value.bool false, Value.slice A n c, Value.int IntKind.i64 ↑n, Value.int IntKind.i64 ↑n, Value.bool false, u53, u54, u55, u56, u57, u58, u59, u60, u61, u62, u63, u64, u65, Value.slice (some { block := bP, off := oP }) m pc, Value.slice (some { block := bP, off := oP }) m pc, Value.int IntKind.i64 ↑m, Value.int IntKind.i64 (↑m - 1), Value.pointer (some { block := bP, off := oP + (m - 1) * 3 }), Value.pointer (some { block := bP, off := oP + (m - 1) * 3 + 1 }), Value.int IntKind.i64 ↑N, Value.int IntKind.i64 ↑N, Value.bool false, Value.slice (some { block := bP, off := oP }) m pc, Value.int IntKind.i64 ↑m, Value.int IntKind.i64 ↑jj, Value.bool true, Value.int IntKind.i64 ↑jj, Value.pointer (some { block := bP, off := oP + jj * 3 }), Value.agg #[Value.int IntKind.i64 xf, Value.int IntKind.i64 xt, Value.slice xA xn xc], xs 0, xs 1, xs 2, xs 3, xs 4, xs 5, xs 6, xs 7, xs 8, xs 9, xs 10, xs 11, xs 12, xs 13, xs 14, xs 15, xs 16, xs 17, xs 18, xs 19, xs 20, xs 21, xs 22, xs 23, xs 24, xs 25, xs 26, xs 27, xs 28, xs 29, xs 30, xs 31, xs 32, xs 33, xs 34, xs 35, xs 36, u119, u120, u121, u122, u123, u124, u125, u126, u127, u128, u129, u130, u131, u132, u133, u134, u135, u136, u137, u138, u139, u140, u141, u142, u143, u144, u145, u146, u147, u148, u149, u150, u151, u152, u153, u154, u155, u156, u157, u158, u159, u160, u161, u162, u163, u164, u165, u166, u167, u168, u169, u170, u171, u172, u173, u174, u175, u176, u177, u178, u179, u180, u181, u182, u183, u184, u185, u186, u187, u188, undef], defers := [] } ∧ (∀ j, listed.getD j false = true → CV [some (.pointer (some ⟨b5, 2, none⟩)), some (.slice xA xn xc), some (.int .i64 (xn : Int)), some (.bool false), some (.bool false), some (.pointer (some ⟨b5, 0, none⟩)), some (.int .i64 xf), some (.pointer (some ⟨b5, 1, none⟩)), some (.int .i64 xt), some (.bool false), some (.bool false), some (.bool false), some (.int .i64 (jj : Int)), some (.bool false), some (.bool false), some (undef), some (undef), some (undef), some (undef), some (undef), some (undef), some (undef), some (undef), some (undef), some (undef), some (undef), some (undef), some (undef), some (undef), some (undef), some (undef), some (undef), some (undef), some (undef), some (undef), some (.bool false), some (.bool false)] j w' (xs j)) ∧ KK2 kk w' ∧ w'.heap[b5]? = some (.cells #[.int .i64 xf, .int .i64 xt, .slice xA xn xc] 86 (0, 0)) ∧ RS 9 w' xA xn xw) ?h0 (AllOps.of ?hs) ?he
                case h0 => exact ⟨fun j => match j with | 0 => u82 | 1 => u83 | 2 => u84 | 3 => u85 | 4 => u86 | 5 => u87 | 6 => u88 | 7 => u89 | 8 => u90 | 9 => u91 | 10 => u92 | 11 => u93 | 12 => u94 | 13 => u95 | 14 => u96 | 15 => u97 | 16 => u98 | 17 => u99 | 18 => u100 | 19 => u101 | 20 => u102 | 21 => u103 | 22 => u104 | 23 => u105 | 24 => u106 | 25 => u107 | 26 => u108 | 27 => u109 | 28 => u110 | 29 => u111 | 30 => u112 | 31 => u113 | 32 => u114 | 33 => u115 | 34 => u116 | 35 => u117 | 36 => u118 | _ => undef, rfl, (fun j hj => by rw [rep_false] at hj; cases hj), kb _ _ _ K5 (below_drewN (Below.refl _ _) 1), hx5, hW5⟩
                case hs =>
                  refine ⟨?_, ?_, ?_, ?_, ?_, ?_, ?_, ?_, ?_, ?_, ?_, ?_, ?_, ?_, ?_, ?_, ?_, ?_, ?_, ?_, ?_, ?_, ?_, ?_, ?_, ?_, ?_, ?_, ?_, ?_, ?_, ?_, ?_, ?_, ?_, ?_, ?_, trivial⟩
                  · intro listed a w' hs hI h0 hd K2 hK
                    obtain ⟨xs, rfl, hC, hK0, hb0, hR0⟩ := hI
                    have hK2 := Lib.hid hK
                    have hC2 := Lib.hid hC
                    clear hd hK hC h0
                    go_simp
                    exact hK2.out _ _ ⟨updV xs 0 (.pointer (some ⟨b5, 2, none⟩)), by simp [updV], cond_set hC2.out (fun _ _ h => h) (CV.of rfl rfl), hK0, hb0, hR0⟩
                  · intro listed a w' hs hI h0 hd K2 hK
                    obtain ⟨xs, rfl, hC, hK0, hb0, hR0⟩ := hI
                    have e0 : xs 0 = .pointer (some ⟨b5, 2, none⟩) := (hC 0 (hd ⟨0, .data⟩ (by simp) rfl)) _ rfl
                    have hK2 := Lib.hid hK
                    have hC2 := Lib.hid hC
                    have y2 := (blk_facts hb0).1 2
                    clear hd hK hC h0
                    go_simp
                    exact hK2.out _ _ ⟨updV xs 1 (.slice xA xn xc), by simp [updV, e0], cond_set hC2.out (fun _ _ h => h) (CV.of rfl rfl), hK0, hb0, hR0⟩
                  · intro listed a w' hs hI h0 hd K2 hK
                    obtain ⟨xs, rfl, hC, hK0, hb0, hR0⟩ := hI
                    have e1 : xs 1 = .slice xA xn xc := (hC 1 (hd ⟨1, .data⟩ (by simp) rfl)) _ rfl
                    have hK2 := Lib.hid hK
                    have hC2 := Lib.hid hC
                    clear hd hK hC h0
                    go_simp
                    exact hK2.out _ _ ⟨updV xs 2 (.int .i64 (xn : Int)), by simp [updV, e1], cond_set hC2.out (fun _ _ h => h) (CV.of rfl rfl), hK0, hb0, hR0⟩
                  · intro listed a w' hs hI h0 hd K2 hK
                    obtain ⟨xs, rfl, hC, hK0, hb0, hR0⟩ := hI
                    have e2 : xs 2 = .int .i64 (xn : Int) := (hC 2 (hd ⟨2, .data⟩ (by simp) rfl)) _ rfl
                    have hK2 := Lib.hid hK
                    have hC2 := Lib.hid hC
                    clear hd hK hC h0
                    go_simp
                    exact hK2.out _ _ ⟨updV xs 3 (.bool false), by simp [updV, e2], cond_set hC2.out (fun _ _ h => h) (CV.of rfl rfl), hK0, hb0, hR0⟩
                  · intro listed a w' hs hI h0 hd K2 hK
                    obtain ⟨xs, rfl, hC, hK0, hb0, hR0⟩ := hI
                    have e3 : xs 3 = .bool false := (hC 3 (hd ⟨3, .data⟩ (by simp) rfl)) _ rfl
                    have hK2 := Lib.hid hK
                    have hC2 := Lib.hid hC
                    clear hd hK hC h0
                    go_simp
                    exact hK2.out _ _ ⟨updV xs 4 (.bool false), by simp [updV, e3], cond_set hC2.out (fun _ _ h => h) (CV.of rfl rfl), hK0, hb0, hR0⟩
                  · intro listed a w' hs hI h0 hd K2 hK
                    obtain ⟨xs, rfl, hC, hK0, hb0, hR0⟩ := hI
                    have e4 : xs 4 = .bool false := (hC 4 (hd ⟨4, .guard⟩ (by simp) rfl)) _ rfl
                    have hK2 := Lib.hid hK
                    have hC2 := Lib.hid hC
                    clear hd hK hC h0
                    go_simp
                    exact hK2.out _ _ ⟨updV xs 5 (.pointer (some ⟨b5, 0, none⟩)), by simp [updV, e4], cond_set hC2.out (fun _ _ h => h) (CV.of rfl rfl), hK0, hb0, hR0⟩
                  · intro listed a w' hs hI h0 hd K2 hK
                    obtain ⟨xs, rfl, hC, hK0, hb0, hR0⟩ := hI
                    have e4 : xs 4 = .bool false := (hC 4 (hd ⟨4, .guard⟩ (by simp) rfl)) _ rfl
                    have e5 : xs 5 = .pointer (some ⟨b5, 0, none⟩) := (hC 5 (hd ⟨5, .data⟩ (by simp) rfl)) _ rfl
                    have hK2 := Lib.hid hK
                    have hC2 := Lib.hid hC
                    have y0 := (blk_facts hb0).1 0
                    clear hd hK hC h0
                    go_simp
                    exact hK2.out _ _ ⟨updV xs 6 (.int .i64 xf), by simp [updV, e4, e5], cond_set hC2.out (fun _ _ h => h) (CV.of rfl rfl), hK0, hb0, hR0⟩
                  · intro listed a w' hs hI h0 hd K2 hK
                    obtain ⟨xs, rfl, hC, hK0, hb0, hR0⟩ := hI
                    have e4 : xs 4 = .bool false := (hC 4 (hd ⟨4, .guard⟩ (by simp) rfl)) _ rfl
                    have hK2 := Lib.hid hK
                    have hC2 := Lib.hid hC
                    clear hd hK hC h0
                    go_simp
                    exact hK2.out _ _ ⟨updV xs 7 (.pointer (some ⟨b5, 1, none⟩)), by simp [updV, e4], cond_set hC2.out (fun _ _ h => h) (CV.of rfl rfl), hK0, hb0, hR0⟩
                  · intro listed a w' hs hI h0 hd K2 hK
                    obtain ⟨xs, rfl, hC, hK0, hb0, hR0⟩ := hI
                    have e4 : xs 4 = .bool false := (hC 4 (hd ⟨4, .guard⟩ (by simp) rfl)) _ rfl
                    have e7 : xs 7 = .pointer (some ⟨b5, 1, none⟩) := (hC 7 (hd ⟨7, .data⟩ (by simp) rfl)) _ rfl
                    have hK2 := Lib.hid hK
                    have hC2 := Lib.hid hC
                    have y1 := (blk_facts hb0).1 1
                    clear hd hK hC h0
                    go_simp
                    exact hK2.out _ _ ⟨updV xs 8 (.int .i64 xt), by simp [updV, e4, e7], cond_set hC2.out (fun _ _ h => h) (CV.of rfl rfl), hK0, hb0, hR0⟩
                  · intro listed a w' hs hI h0 hd K2 hK
                    obtain ⟨xs, rfl, hC, hK0, hb0, hR0⟩ := hI
                    have e4 : xs 4 = .bool false := (hC 4 (hd ⟨4, .guard⟩ (by simp) rfl)) _ rfl
                    have e6 : xs 6 = .int .i64 xf := (hC 6 (hd ⟨6, .data⟩ (by simp) rfl)) _ rfl
                    have e8 : xs 8 = .int .i64 xt := (hC 8 (hd ⟨8, .data⟩ (by simp) rfl)) _ rfl
                    have hK2 := Lib.hid hK
                    have hC2 := Lib.hid hC
                    clear hd hK hC h0
                    go_simp
                    exact hK2.out _ _ ⟨updV xs 9 (.bool false), by simp [updV, e4, e6, e8], cond_set hC2.out (fun _ _ h => h) (CV.of rfl rfl), hK0, hb0, hR0⟩
                  · intro listed a w' hs hI h0 hd K2 hK
                    obtain ⟨xs, rfl, hC, hK0, hb0, hR0⟩ := hI
                    have e4 : xs 4 = .bool false := (hC 4 (hd ⟨4, .data⟩ (by simp) rfl)) _ rfl
                    have e9 : xs 9 = .bool false := (hC 9 (hd ⟨9, .data⟩ (by simp) rfl)) _ rfl
                    have hK2 := Lib.hid hK
                    have hC2 := Lib.hid hC
                    clear hd hK hC h0
                    go_simp
                    exact hK2.out _ _ ⟨updV xs 10 (.bool false), by simp [updV, e4, e9], cond_set hC2.out (fun _ _ h => h) (CV.of rfl rfl), hK0, hb0, hR0⟩
                  · intro listed a w' hs hI h0 hd K2 hK
                    obtain ⟨xs, rfl, hC, hK0, hb0, hR0⟩ := hI
                    have e10 : xs 10 = .bool false := (hC 10 (hd ⟨10, .data⟩ (by simp) rfl)) _ rfl
                    have hK2 := Lib.hid hK
                    have hC2 := Lib.hid hC
                    clear hd hK hC h0
                    go_simp
                    exact hK2.out _ _ ⟨updV xs 11 (.bool false), by simp [updV, e10], cond_set hC2.out (fun _ _ h => h) (CV.of rfl rfl), hK0, hb0, hR0⟩
                  · intro listed a w' hs hI h0 hd K2 hK
                    obtain ⟨xs, rfl, hC, hK0, hb0, hR0⟩ := hI
                    have e11 : xs 11 = .bool false := (hC 11 (hd ⟨11, .guard⟩ (by simp) rfl)) _ rfl
                    have hK2 := Lib.hid hK
                    have hC2 := Lib.hid hC
                    clear hd hK hC h0
                    go_simp
                    exact hK2.out _ _ ⟨updV xs 12 (.int .i64 (jj : Int)), by simp [updV, e11], cond_set hC2.out (fun _ _ h => h) (CV.of rfl rfl), hK0, hb0, hR0⟩
                  · intro listed a w' hs hI h0 hd K2 hK
                    obtain ⟨xs, rfl, hC, hK0, hb0, hR0⟩ := hI
                    have e11 : xs 11 = .bool false := (hC 11 (hd ⟨11, .guard⟩ (by simp) rfl)) _ rfl
                    have e12 : xs 12 = .int .i64 (jj : Int) := (hC 12 (hd ⟨12, .data⟩ (by simp) rfl)) _ rfl
                    have hK2 := Lib.hid hK
                    have hC2 := Lib.hid hC
                    clear hd hK hC h0
                    go_simp
                    exact hK2.out _ _ ⟨updV xs 13 (.bool false), by simp [updV, e11, e12]; exact hj1.out, cond_set hC2.out (fun _ _ h => h) (CV.of rfl rfl), hK0, hb0, hR0⟩
                  · intro listed a w' hs hI h0 hd K2 hK
                    obtain ⟨xs, rfl, hC, hK0, hb0, hR0⟩ := hI
                    have e11 : xs 11 = .bool false := (hC 11 (hd ⟨11, .guard⟩ (by simp) rfl)) _ rfl
                    have e13 : xs 13 = .bool false := (hC 13 (hd ⟨13, .data⟩ (by simp) rfl)) _ rfl
                    have hK2 := Lib.hid hK
                    have hC2 := Lib.hid hC
                    clear hd hK hC h0
                    go_simp
                    exact hK2.out _ _ ⟨updV xs 14 (.bool false), by simp [updV, e11, e13], cond_set hC2.out (fun _ _ h => h) (CV.of rfl rfl), hK0, hb0, hR0⟩
                  · intro listed a w' hs hI h0 hd K2 hK
                    obtain ⟨xs, rfl, hC, hK0, hb0, hR0⟩ := hI
                    have e14 : xs 14 = .bool false := (hC 14 (hd ⟨14, .guard⟩ (by simp) rfl)) _ rfl
                    have hK2 := Lib.hid hK
                    have hC2 := Lib.hid hC
                    clear hd hK hC h0
                    go_simp
                    exact hK2.out _ _ ⟨updV xs 15 (undef), by simp [updV, e14], cond_set hC2.out (fun _ _ h => h) (CV.of rfl rfl), hK0, hb0, hR0⟩
                  · intro listed a w' hs hI h0 hd K2 hK
                    obtain ⟨xs, rfl, hC, hK0, hb0, hR0⟩ := hI
                    have e14 : xs 14 = .bool false := (hC 14 (hd ⟨14, .guard⟩ (by simp) rfl)) _ rfl
                    have hK2 := Lib.hid hK
                    have hC2 := Lib.hid hC
                    clear hd hK hC h0
                    go_simp
                    exact hK2.out _ _ ⟨updV xs 16 (undef), by simp [updV, e14], cond_set hC2.out (fun _ _ h => h) (CV.of rfl rfl), hK0, hb0, hR0⟩
                  · intro listed a w' hs hI h0 hd K2 hK
                    obtain ⟨xs, rfl, hC, hK0, hb0, hR0⟩ := hI
                    have e14 : xs 14 = .bool false := (hC 14 (hd ⟨14, .guard⟩ (by simp) rfl)) _ rfl
                    have e16 : xs 16 = undef := (hC 16 (hd ⟨16, .data⟩ (by simp) rfl)) _ rfl
                    have hK2 := Lib.hid hK
                    have hC2 := Lib.hid hC
                    clear hd hK hC h0
                    go_simp
                    exact hK2.out _ _ ⟨updV xs 17 (undef), by simp [updV, e14, e16], cond_set hC2.out (fun _ _ h => h) (CV.of rfl rfl), hK0, hb0, hR0⟩
                  · intro listed a w' hs hI h0 hd K2 hK
                    obtain ⟨xs, rfl, hC, hK0, hb0, hR0⟩ := hI
                    have e14 : xs 14 = .bool false := (hC 14 (hd ⟨14, .guard⟩ (by simp) rfl)) _ rfl
                    have e15 : xs 15 = undef := (hC 15 (hd ⟨15, .data⟩ (by simp) rfl)) _ rfl
                    have e17 : xs 17 = undef := (hC 17 (hd ⟨17, .data⟩ (by simp) rfl)) _ rfl
                    have hK2 := Lib.hid hK
                    have hC2 := Lib.hid hC
                    clear hd hK hC h0
                    go_simp
                    exact hK2.out _ _ ⟨updV xs 18 (undef), by simp [updV, e14, e15, e17], cond_set hC2.out (fun _ _ h => h) (CV.of rfl rfl), hK0, hb0, hR0⟩
                  · intro listed a w' hs hI h0 hd K2 hK
                    obtain ⟨xs, rfl, hC, hK0, hb0, hR0⟩ := hI
                    have e14 : xs 14 = .bool false := (hC 14 (hd ⟨14, .guard⟩ (by simp) rfl)) _ rfl
                    have e18 : xs 18 = undef := (hC 18 (hd ⟨18, .data⟩ (by simp) rfl)) _ rfl
                    have hK2 := Lib.hid hK
                    have hC2 := Lib.hid hC
                    clear hd hK hC h0
                    go_simp
                    exact hK2.out _ _ ⟨updV xs 19 (undef), by simp [updV, e14, e18], cond_set hC2.out (fun _ _ h => h) (CV.of rfl rfl), hK0, hb0, hR0⟩
                  · intro listed a w' hs hI h0 hd K2 hK
                    obtain ⟨xs, rfl, hC, hK0, hb0, hR0⟩ := hI
                    have e14 : xs 14 = .bool false := (hC 14 (hd ⟨14, .guard⟩ (by simp) rfl)) _ rfl
                    have e19 : xs 19 = undef := (hC 19 (hd ⟨19, .data⟩ (by simp) rfl)) _ rfl
                    have hK2 := Lib.hid hK
                    have hC2 := Lib.hid hC
                    clear hd hK hC h0
                    go_simp
                    exact hK2.out _ _ ⟨updV xs 20 (undef), by simp [updV, e14, e19], cond_set hC2.out (fun _ _ h => h) (CV.of rfl rfl), hK0, hb0, hR0⟩
                  · intro listed a w' hs hI h0 hd K2 hK
                    obtain ⟨xs, rfl, hC, hK0, hb0, hR0⟩ := hI
                    have e14 : xs 14 = .bool false := (hC 14 (hd ⟨14, .guard⟩ (by simp) rfl)) _ rfl
                    have hK2 := Lib.hid hK
                    have hC2 := Lib.hid hC
                    clear hd hK hC h0
                    go_simp
                    exact hK2.out _ _ ⟨updV xs 21 (undef), by simp [updV, e14], cond_set hC2.out (fun _ _ h => h) (CV.of rfl rfl), hK0, hb0, hR0⟩
                  · intro listed a w' hs hI h0 hd K2 hK
                    obtain ⟨xs, rfl, hC, hK0, hb0, hR0⟩ := hI
                    have e14 : xs 14 = .bool false := (hC 14 (hd ⟨14, .guard⟩ (by simp) rfl)) _ rfl
                    have e21 : xs 21 = undef := (hC 21 (hd ⟨21, .data⟩ (by simp) rfl)) _ rfl
                    have hK2 := Lib.hid hK
                    have hC2 := Lib.hid hC
                    clear hd hK hC h0
                    go_simp
                    exact hK2.out _ _ ⟨updV xs 22 (undef), by simp [updV, e14, e21], cond_set hC2.out (fun _ _ h => h) (CV.of rfl rfl), hK0, hb0, hR0⟩
                  · intro listed a w' hs hI h0 hd K2 hK
                    obtain ⟨xs, rfl, hC, hK0, hb0, hR0⟩ := hI
                    have e14 : xs 14 = .bool false := (hC 14 (hd ⟨14, .guard⟩ (by simp) rfl)) _ rfl
                    have e20 : xs 20 = undef := (hC 20 (hd ⟨20, .data⟩ (by simp) rfl)) _ rfl
                    have e22 : xs 22 = undef := (hC 22 (hd ⟨22, .data⟩ (by simp) rfl)) _ rfl
                    have hK2 := Lib.hid hK
                    have hC2 := Lib.hid hC
                    clear hd hK hC h0
                    go_simp
                    exact hK2.out _ _ ⟨updV xs 23 (undef), by simp [updV, e14, e20, e22], cond_set hC2.out (fun _ _ h => h) (CV.of rfl rfl), hK0, hb0, hR0⟩
                  · intro listed a w' hs hI h0 hd K2 hK
                    obtain ⟨xs, rfl, hC, hK0, hb0, hR0⟩ := hI
                    have e14 : xs 14 = .bool false := (hC 14 (hd ⟨14, .guard⟩ (by simp) rfl)) _ rfl
                    have e23 : xs 23 = undef := (hC 23 (hd ⟨23, .data⟩ (by simp) rfl)) _ rfl
                    have hK2 := Lib.hid hK
                    have hC2 := Lib.hid hC
                    clear hd hK hC h0
                    go_simp
                    exact hK2.out _ _ ⟨updV xs 24 (undef), by simp [updV, e14, e23], cond_set hC2.out (fun _ _ h => h) (CV.of rfl rfl), hK0, hb0, hR0⟩
                  · intro listed a w' hs hI h0 hd K2 hK
                    obtain ⟨xs, rfl, hC, hK0, hb0, hR0⟩ := hI
                    have e24 : xs 24 = undef := (hC 24 (hd ⟨24, .guard⟩ (by simp) rfl)) _ rfl
                    have hK2 := Lib.hid hK
                    have hC2 := Lib.hid hC
                    clear hd hK hC h0
                    go_simp
                    exact hK2.out _ _ ⟨updV xs 25 (undef), by simp [updV, e24], cond_set hC2.out (fun _ _ h => h) (CV.of rfl rfl), hK0, hb0, hR0⟩
                  · intro listed a w' hs hI h0 hd K2 hK
                    obtain ⟨xs, rfl, hC, hK0, hb0, hR0⟩ := hI
                    have e24 : xs 24 = undef := (hC 24 (hd ⟨24, .guard⟩ (by simp) rfl)) _ rfl
                    have hK2 := Lib.hid hK
                    have hC2 := Lib.hid hC
                    clear hd hK hC h0
                    go_simp
                    exact hK2.out _ _ ⟨updV xs 26 (undef), by simp [updV, e24], cond_set hC2.out (fun _ _ h => h) (CV.of rfl rfl), hK0, hb0, hR0⟩
                  · intro listed a w' hs hI h0 hd K2 hK
                    obtain ⟨xs, rfl, hC, hK0, hb0, hR0⟩ := hI
                    have e24 : xs 24 = undef := (hC 24 (hd ⟨24, .guard⟩ (by simp) rfl)) _ rfl
                    have e26 : xs 26 = undef := (hC 26 (hd ⟨26, .data⟩ (by simp) rfl)) _ rfl
                    have hK2 := Lib.hid hK
                    have hC2 := Lib.hid hC
                    clear hd hK hC h0
                    go_simp
                    exact hK2.out _ _ ⟨updV xs 27 (undef), by simp [updV, e24, e26], cond_set hC2.out (fun _ _ h => h) (CV.of rfl rfl), hK0, hb0, hR0⟩
                  · intro listed a w' hs hI h0 hd K2 hK
                    obtain ⟨xs, rfl, hC, hK0, hb0, hR0⟩ := hI
                    have e24 : xs 24 = undef := (hC 24 (hd ⟨24, .guard⟩ (by simp) rfl)) _ rfl
                    have e25 : xs 25 = undef := (hC 25 (hd ⟨25, .data⟩ (by simp) rfl)) _ rfl
                    have e27 : xs 27 = undef := (hC 27 (hd ⟨27, .data⟩ (by simp) rfl)) _ rfl
                    have hK2 := Lib.hid hK
                    have hC2 := Lib.hid hC
                    clear hd hK hC h0
                    go_simp
                    exact hK2.out _ _ ⟨updV xs 28 (undef), by simp [updV, e24, e25, e27], cond_set hC2.out (fun _ _ h => h) (CV.of rfl rfl), hK0, hb0, hR0⟩
                  · intro listed a w' hs hI h0 hd K2 hK
                    obtain ⟨xs, rfl, hC, hK0, hb0, hR0⟩ := hI
                    have e24 : xs 24 = undef := (hC 24 (hd ⟨24, .guard⟩ (by simp) rfl)) _ rfl
                    have e28 : xs 28 = undef := (hC 28 (hd ⟨28, .data⟩ (by simp) rfl)) _ rfl
                    have hK2 := Lib.hid hK
                    have hC2 := Lib.hid hC
                    clear hd hK hC h0
                    go_simp
                    exact hK2.out _ _ ⟨updV xs 29 (undef), by simp [updV, e24, e28], cond_set hC2.out (fun _ _ h => h) (CV.of rfl rfl), hK0, hb0, hR0⟩
                  · intro listed a w' hs hI h0 hd K2 hK
                    obtain ⟨xs, rfl, hC, hK0, hb0, hR0⟩ := hI
                    have e24 : xs 24 = undef := (hC 24 (hd ⟨24, .guard⟩ (by simp) rfl)) _ rfl
                    have e29 : xs 29 = undef := (hC 29 (hd ⟨29, .data⟩ (by simp) rfl)) _ rfl
                    have hK2 := Lib.hid hK
                    have hC2 := Lib.hid hC
                    clear hd hK hC h0
                    go_simp
                    exact hK2.out _ _ ⟨updV xs 30 (undef), by simp [updV, e24, e29], cond_set hC2.out (fun _ _ h => h) (CV.of rfl rfl), hK0, hb0, hR0⟩
                  · intro listed a w' hs hI h0 hd K2 hK
                    obtain ⟨xs, rfl, hC, hK0, hb0, hR0⟩ := hI
                    have e24 : xs 24 = undef := (hC 24 (hd ⟨24, .guard⟩ (by simp) rfl)) _ rfl
                    have hK2 := Lib.hid hK
                    have hC2 := Lib.hid hC
                    clear hd hK hC h0
                    go_simp
                    exact hK2.out _ _ ⟨updV xs 31 (undef), by simp [updV, e24], cond_set hC2.out (fun _ _ h => h) (CV.of rfl rfl), hK0, hb0, hR0⟩
                  · intro listed a w' hs hI h0 hd K2 hK
                    obtain ⟨xs, rfl, hC, hK0, hb0, hR0⟩ := hI
                    have e24 : xs 24 = undef := (hC 24 (hd ⟨24, .guard⟩ (by simp) rfl)) _ rfl
                    have e31 : xs 31 = undef := (hC 31 (hd ⟨31, .data⟩ (by simp) rfl)) _ rfl
                    have hK2 := Lib.hid hK
                    have hC2 := Lib.hid hC
                    clear hd hK hC h0
                    go_simp
                    exact hK2.out _ _ ⟨updV xs 32 (undef), by simp [updV, e24, e31], cond_set hC2.out (fun _ _ h => h) (CV.of rfl rfl), hK0, hb0, hR0⟩
                  · intro listed a w' hs hI h0 hd K2 hK
                    obtain ⟨xs, rfl, hC, hK0, hb0, hR0⟩ := hI
                    have e24 : xs 24 = undef := (hC 24 (hd ⟨24, .guard⟩ (by simp) rfl)) _ rfl
                    have e30 : xs 30 = undef := (hC 30 (hd ⟨30, .data⟩ (by simp) rfl)) _ rfl
                    have e32 : xs 32 = undef := (hC 32 (hd ⟨32, .data⟩ (by simp) rfl)) _ rfl
                    have hK2 := Lib.hid hK
                    have hC2 := Lib.hid hC
                    clear hd hK hC h0
                    go_simp
                    exact hK2.out _ _ ⟨updV xs 33 (undef), by simp [updV, e24, e30, e32], cond_set hC2.out (fun _ _ h => h) (CV.of rfl rfl), hK0, hb0, hR0⟩
                  · intro listed a w' hs hI h0 hd K2 hK
                    obtain ⟨xs, rfl, hC, hK0, hb0, hR0⟩ := hI
                    have e14 : xs 14 = .bool false := (hC 14 (hd ⟨14, .guard⟩ (by simp) rfl)) _ rfl
                    have e24 : xs 24 = undef := (hC 24 (hd ⟨24, .data⟩ (by simp) rfl)) _ rfl
                    have e33 : xs 33 = undef := (hC 33 (hd ⟨33, .data⟩ (by simp) rfl)) _ rfl
                    have hK2 := Lib.hid hK
                    have hC2 := Lib.hid hC
                    clear hd hK hC h0
                    go_simp
                    exact hK2.out _ _ ⟨updV xs 34 (undef), by simp [updV, e14, e24, e33], cond_set hC2.out (fun _ _ h => h) (CV.of rfl rfl), hK0, hb0, hR0⟩
                  · intro listed a w' hs hI h0 hd K2 hK
                    obtain ⟨xs, rfl, hC, hK0, hb0, hR0⟩ := hI
                    have e11 : xs 11 = .bool false := (hC 11 (hd ⟨11, .guard⟩ (by simp) rfl)) _ rfl
                    have e14 : xs 14 = .bool false := (hC 14 (hd ⟨14, .data⟩ (by simp) rfl)) _ rfl
                    have e34 : xs 34 = undef := (hC 34 (hd ⟨34, .data⟩ (by simp) rfl)) _ rfl
                    have hK2 := Lib.hid hK
                    have hC2 := Lib.hid hC
                    clear hd hK hC h0
                    go_simp
                    exact hK2.out _ _ ⟨updV xs 35 (.bool false), by simp [updV, e11, e14, e34], cond_set hC2.out (fun _ _ h => h) (CV.of rfl rfl), hK0, hb0, hR0⟩
                  · intro listed a w' hs hI h0 hd K2 hK
                    obtain ⟨xs, rfl, hC, hK0, hb0, hR0⟩ := hI
                    have e11 : xs 11 = .bool false := (hC 11 (hd ⟨11, .data⟩ (by simp) rfl)) _ rfl
                    have e35 : xs 35 = .bool false := (hC 35 (hd ⟨35, .data⟩ (by simp) rfl)) _ rfl
                    have hK2 := Lib.hid hK
                    have hC2 := Lib.hid hC
                    clear hd hK hC h0
                    go_simp
                    exact hK2.out _ _ ⟨updV xs 36 (.bool false), by simp [updV, e11, e35], cond_set hC2.out (fun _ _ h => h) (CV.of rfl rfl), hK0, hb0, hR0⟩
                case he =>
                  intro listed a w' hs hI hr
                  obtain ⟨xs, rfl, hC, hK0, hb0, hR0⟩ := hI
                  have eL : xs 36 = .bool false := (hC 36 (all_listed hs hr ⟨rfl, rfl, rfl, rfl, rfl, rfl, rfl, rfl, rfl, rfl, rfl, rfl, rfl, rfl, rfl, rfl, rfl, rfl, rfl, rfl, rfl, rfl, rfl, rfl, rfl, rfl, rfl, rfl, rfl, rfl, rfl, rfl, rfl, rfl, rfl, rfl, rfl, trivial⟩ 36 (by simp))) _ rfl
                  clear hC hs hr
                  go_wp2
                  go_meet
                  case rel => exact ⟨by first | exact eL | rfl, hK0, hb0, hR0⟩
                --R20a end
              · obtain ⟨y, hy⟩ := at_of_lt (l := P) (k := jj - 1) (by omega)
                obtain ⟨hyt, hye⟩ := hpv.out y hy (by omega)
                have hjp : (0 : Int) < (jj : Int) := by omega
                have hjp3 : 0 < jj := by omega
                have hw1 : IntKind.i64.wrap ((jj : Int) - 1) = (jj : Int) - 1 := IntWalk.i64_in _ (by omega)
                have hw2 : 0 ≤ (jj : Int) - 1 := by omega
                have hw3 : ((jj : Int) - 1).toNat = jj - 1 := by omega
                have hw4 : (jj : Int) - 1 < m := by omega
                have hw5 : 0 < m := by omega
                clear hpv
                --R20b
                refine wp_region_inv (by kernel_rfl) (fun listed a w' => ∃ xs : Nat → Value, a = { tmps := #[Value.slice a0 len0 cap0, undef, u2, Value.pointer (some { block := w.heap.size, off := 0 }), Value.pointer (some { block := b4, off := 0 }), Value.slice A n c, Value.slice (some { block := bP, off := oP }) m pc, Value.int IntKind.i64 0, Value.int IntKind.i64 ↑N, undef, u10, Value.int IntKind.i64 ↑jj, Value.pointer (some { block := b5, off := 0 }), u13, u14, u15, u16, Value.slice a0 len0 cap0, Value.agg #[Value.slice a0 len0 cap0, Value.int IntKind.i64 0], Value.pointer (some { block := w.heap.size, off := 0 }), Value.pointer (some { block := w.heap.size, off := 0 }), Value.agg #[Value.string key, Value.int IntKind.i64 metres, Value.int IntKind.i64 stroke, Value.int IntKind.i64 course, Value.int IntKind.i64 legs, Value.int IntKind.i64 sex, Value.int IntKind.i64 young, Value.int IntKind.i64 old], Value.pointer (some { block := w.heap.size, off := 0 }), Value.agg #[Value.string key, Value.int IntKind.i64 metres, Value.int IntKind.i64 stroke, Value.int IntKind.i64 course, Value.int IntKind.i64 legs, Value.int IntKind.i64 sex, Value.int IntKind.i64 young, Value.int IntKind.i64 old], Value.slice A n c, Value.slice A n c, Value.int IntKind.i64 ↑n, Value.bool false, undef, Value.tuple #[Value.slice (some { block := bP, off := oP }) m pc, Value.int IntKind.i64 0], Value.agg #[Value.string key, Value.int IntKind.i64 metres, Value.int IntKind.i64 stroke, Value.int IntKind.i64 course, Value.int IntKind.i64 legs, Value.int IntKind.i64 sex, Value.int IntKind.i64 young, Value.int IntKind.i64 old], Value.slice A n c, Value.tuple #[Value.slice (some { block := bP, off := oP }) m pc, Value.int IntKind.i64 0], Value.slice (some { block := bP, off := oP }) m pc, Value.int IntKind.i64 0, Value.int IntKind.i64 0, Value.bool false, Value.bool false, Value.slice (some { block := bP, off := oP }) m pc, Value.int IntKind.i64 ↑m, Value.bool false, Value.bool false, Value.bool false, Value.slice (some { block := bP, off := oP }) m pc, Value.pointer (some { block := bP, off := oP }), Value.pointer (some { block := bP, off := oP }), Value.int IntKind.i64 0, Value.bool false, Value.bool false, Value.slice A n c, Value.int IntKind.i64 ↑n, Value.int IntKind.i64 ↑n, Value.bool false, u53, u54, u55, u56, u57, u58, u59, u60, u61, u62, u63, u64, u65, Value.slice (some { block := bP, off := oP }) m pc, Value.slice (some { block := bP, off := oP }) m pc, Value.int IntKind.i64 ↑m, Value.int IntKind.i64 (↑m - 1), Value.pointer (some { block := bP, off := oP + (m - 1) * 3 }), Value.pointer (some { block := bP, off := oP + (m - 1) * 3 + 1 }), Value.int IntKind.i64 ↑N, Value.int IntKind.i64 ↑N, Value.bool false, Value.slice (some { block := bP, off := oP }) m pc, Value.int IntKind.i64 ↑m, Value.int IntKind.i64 ↑jj, Value.bool true, Value.int IntKind.i64 ↑jj, Value.pointer (some { block := bP, off := oP + jj * 3 }), Value.agg #[Value.int IntKind.i64 xf, Value.int IntKind.i64 xt, Value.slice xA xn xc], xs 0, xs 1, xs 2, xs 3, xs 4, xs 5, xs 6, xs 7, xs 8, xs 9, xs 10, xs 11, xs 12, xs 13, xs 14, xs 15, xs 16, xs 17, xs 18, xs 19, xs 20, xs 21, xs 22, xs 23, xs 24, xs 25, xs 26, xs 27, xs 28, xs 29, xs 30, xs 31, xs 32, xs 33, xs 34, xs 35, xs 36, u119, u120, u121, u122, u123, u124, u125, u126, u127, u128, u129, u130, u131, u132, u133, u134, u135, u136, u137, u138, u139, u140, u141, u142, u143, u144, u145, u146, u147, u148, u149, u150, u151, u152, u153, u154, u155, u156, u157, u158, u159, u160, u161, u162, u163, u164, u165, u166, u167, u168, u169, u170, u171, u172, u173, u174, u175, u176, u177, u178, u179, u180, u181, u182, u183, u184, u185, u186, u187, u188, undef], defers := [] } ∧ (∀ j, listed.getD j false = true → CV [some (.pointer (some ⟨b5, 2, none⟩)), some (.slice xA xn xc), some (.int .i64 (xn : Int)), some (.bool false), some (.bool false), some (.pointer (some ⟨b5, 0, none⟩)), some (.int .i64 xf), some (.pointer (some ⟨b5, 1, none⟩)), some (.int .i64 xt), some (.bool false), some (.bool false), some (.bool false), some (.int .i64 (jj : Int)), some (.bool true), some (.bool true), some (.slice (some ⟨bP, oP, none⟩) m pc), some (.int .i64 (jj : Int)), some (.int .i64 ((jj : Int) - 1)), some (.pointer (some ⟨bP, oP + (jj - 1) * 3, none⟩)), some (.pointer (some ⟨bP, oP + (jj - 1) * 3 + 1, none⟩)), some (.int .i64 xf), some (.pointer (some ⟨b5, 0, none⟩)), some (.int .i64 xf), some (.bool false), some (.bool false), some (.slice (some ⟨bP, oP, none⟩) m pc), some (.int .i64 (jj : Int)), some (.int .i64 ((jj : Int) - 1)), some (.pointer (some ⟨bP, oP + (jj - 1) * 3, none⟩)), some (.pointer (some ⟨bP, oP + (jj - 1) * 3 + 2, none⟩)), some (.slice y.A y.n y.c), some (.pointer (some ⟨b5, 2, none⟩)), some (.slice xA xn xc), some (.bool false), some (.bool false), some (.bool false), some (.bool false)] j w' (xs j)) ∧ KK2 kk w' ∧ w'.heap[b5]? = some (.cells #[.int .i64 xf, .int .i64 xt, .slice xA xn xc] 86 (0, 0)) ∧ RS 9 w' xA xn xw) ?h0 (AllOps.of ?hs) ?he
                case h0 => exact ⟨fun j => match j with | 0 => u82 | 1 => u83 | 2 => u84 | 3 => u85 | 4 => u86 | 5 => u87 | 6 => u88 | 7 => u89 | 8 => u90 | 9 => u91 | 10 => u92 | 11 => u93 | 12 => u94 | 13 => u95 | 14 => u96 | 15 => u97 | 16 => u98 | 17 => u99 | 18 => u100 | 19 => u101 | 20 => u102 | 21 => u103 | 22 => u104 | 23 => u105 | 24 => u106 | 25 => u107 | 26 => u108 | 27 => u109 | 28 => u110 | 29 => u111 | 30 => u112 | 31 => u113 | 32 => u114 | 33 => u115 | 34 => u116 | 35 => u117 | 36 => u118 | _ => undef, rfl, (fun j hj => by rw [rep_false] at hj; cases hj), kb _ _ _ K5 (below_drewN (Below.refl _ _) 1), hx5, hW5⟩
                case hs =>
                  refine ⟨?_, ?_, ?_, ?_, ?_, ?_, ?_, ?_, ?_, ?_, ?_, ?_, ?_, ?_, ?_, ?_, ?_, ?_, ?_, ?_, ?_, ?_, ?_, ?_, ?_, ?_, ?_, ?_, ?_, ?_, ?_, ?_, ?_, ?_, ?_, ?_, ?_, trivial⟩
                  · intro listed a w' hs hI h0 hd K2 hK
                    obtain ⟨xs, rfl, hC, hK0, hb0, hR0⟩ := hI
                    have hK2 := Lib.hid hK
                    have hC2 := Lib.hid hC
                    clear hd hK hC h0
                    go_simp
                    exact hK2.out _ _ ⟨updV xs 0 (.pointer (some ⟨b5, 2, none⟩)), by simp [updV], cond_set hC2.out (fun _ _ h => h) (CV.of rfl rfl), hK0, hb0, hR0⟩
                  · intro listed a w' hs hI h0 hd K2 hK
                    obtain ⟨xs, rfl, hC, hK0, hb0, hR0⟩ := hI
                    have e0 : xs 0 = .pointer (some ⟨b5, 2, none⟩) := (hC 0 (hd ⟨0, .data⟩ (by simp) rfl)) _ rfl
                    have hK2 := Lib.hid hK
                    have hC2 := Lib.hid hC
                    have y2 := (blk_facts hb0).1 2
                    clear hd hK hC h0
                    go_simp
                    exact hK2.out _ _ ⟨updV xs 1 (.slice xA xn xc), by simp [updV, e0], cond_set hC2.out (fun _ _ h => h) (CV.of rfl rfl), hK0, hb0, hR0⟩
                  · intro listed a w' hs hI h0 hd K2 hK
                    obtain ⟨xs, rfl, hC, hK0, hb0, hR0⟩ := hI
                    have e1 : xs 1 = .slice xA xn xc := (hC 1 (hd ⟨1, .data⟩ (by simp) rfl)) _ rfl
                    have hK2 := Lib.hid hK
                    have hC2 := Lib.hid hC
                    clear hd hK hC h0
                    go_simp
                    exact hK2.out _ _ ⟨updV xs 2 (.int .i64 (xn : Int)), by simp [updV, e1], cond_set hC2.out (fun _ _ h => h) (CV.of rfl rfl), hK0, hb0, hR0⟩
                  · intro listed a w' hs hI h0 hd K2 hK
                    obtain ⟨xs, rfl, hC, hK0, hb0, hR0⟩ := hI
                    have e2 : xs 2 = .int .i64 (xn : Int) := (hC 2 (hd ⟨2, .data⟩ (by simp) rfl)) _ rfl
                    have hK2 := Lib.hid hK
                    have hC2 := Lib.hid hC
                    clear hd hK hC h0
                    go_simp
                    exact hK2.out _ _ ⟨updV xs 3 (.bool false), by simp [updV, e2], cond_set hC2.out (fun _ _ h => h) (CV.of rfl rfl), hK0, hb0, hR0⟩
                  · intro listed a w' hs hI h0 hd K2 hK
                    obtain ⟨xs, rfl, hC, hK0, hb0, hR0⟩ := hI
                    have e3 : xs 3 = .bool false := (hC 3 (hd ⟨3, .data⟩ (by simp) rfl)) _ rfl
                    have hK2 := Lib.hid hK
                    have hC2 := Lib.hid hC
                    clear hd hK hC h0
                    go_simp
                    exact hK2.out _ _ ⟨updV xs 4 (.bool false), by simp [updV, e3], cond_set hC2.out (fun _ _ h => h) (CV.of rfl rfl), hK0, hb0, hR0⟩
                  · intro listed a w' hs hI h0 hd K2 hK
                    obtain ⟨xs, rfl, hC, hK0, hb0, hR0⟩ := hI
                    have e4 : xs 4 = .bool false := (hC 4 (hd ⟨4, .guard⟩ (by simp) rfl)) _ rfl
                    have hK2 := Lib.hid hK
                    have hC2 := Lib.hid hC
                    clear hd hK hC h0
                    go_simp
                    exact hK2.out _ _ ⟨updV xs 5 (.pointer (some ⟨b5, 0, none⟩)), by simp [updV, e4], cond_set hC2.out (fun _ _ h => h) (CV.of rfl rfl), hK0, hb0, hR0⟩
                  · intro listed a w' hs hI h0 hd K2 hK
                    obtain ⟨xs, rfl, hC, hK0, hb0, hR0⟩ := hI
                    have e4 : xs 4 = .bool false := (hC 4 (hd ⟨4, .guard⟩ (by simp) rfl)) _ rfl
                    have e5 : xs 5 = .pointer (some ⟨b5, 0, none⟩) := (hC 5 (hd ⟨5, .data⟩ (by simp) rfl)) _ rfl
                    have hK2 := Lib.hid hK
                    have hC2 := Lib.hid hC
                    have y0 := (blk_facts hb0).1 0
                    clear hd hK hC h0
                    go_simp
                    exact hK2.out _ _ ⟨updV xs 6 (.int .i64 xf), by simp [updV, e4, e5], cond_set hC2.out (fun _ _ h => h) (CV.of rfl rfl), hK0, hb0, hR0⟩
                  · intro listed a w' hs hI h0 hd K2 hK
                    obtain ⟨xs, rfl, hC, hK0, hb0, hR0⟩ := hI
                    have e4 : xs 4 = .bool false := (hC 4 (hd ⟨4, .guard⟩ (by simp) rfl)) _ rfl
                    have hK2 := Lib.hid hK
                    have hC2 := Lib.hid hC
                    clear hd hK hC h0
                    go_simp
                    exact hK2.out _ _ ⟨updV xs 7 (.pointer (some ⟨b5, 1, none⟩)), by simp [updV, e4], cond_set hC2.out (fun _ _ h => h) (CV.of rfl rfl), hK0, hb0, hR0⟩
                  · intro listed a w' hs hI h0 hd K2 hK
                    obtain ⟨xs, rfl, hC, hK0, hb0, hR0⟩ := hI
                    have e4 : xs 4 = .bool false := (hC 4 (hd ⟨4, .guard⟩ (by simp) rfl)) _ rfl
                    have e7 : xs 7 = .pointer (some ⟨b5, 1, none⟩) := (hC 7 (hd ⟨7, .data⟩ (by simp) rfl)) _ rfl
                    have hK2 := Lib.hid hK
                    have hC2 := Lib.hid hC
                    have y1 := (blk_facts hb0).1 1
                    clear hd hK hC h0
                    go_simp
                    exact hK2.out _ _ ⟨updV xs 8 (.int .i64 xt), by simp [updV, e4, e7], cond_set hC2.out (fun _ _ h => h) (CV.of rfl rfl), hK0, hb0, hR0⟩
                  · intro listed a w' hs hI h0 hd K2 hK
                    obtain ⟨xs, rfl, hC, hK0, hb0, hR0⟩ := hI
                    have e4 : xs 4 = .bool false := (hC 4 (hd ⟨4, .guard⟩ (by simp) rfl)) _ rfl
                    have e6 : xs 6 = .int .i64 xf := (hC 6 (hd ⟨6, .data⟩ (by simp) rfl)) _ rfl
                    have e8 : xs 8 = .int .i64 xt := (hC 8 (hd ⟨8, .data⟩ (by simp) rfl)) _ rfl
                    have hK2 := Lib.hid hK
                    have hC2 := Lib.hid hC
                    clear hd hK hC h0
                    go_simp
                    exact hK2.out _ _ ⟨updV xs 9 (.bool false), by simp [updV, e4, e6, e8], cond_set hC2.out (fun _ _ h => h) (CV.of rfl rfl), hK0, hb0, hR0⟩
                  · intro listed a w' hs hI h0 hd K2 hK
                    obtain ⟨xs, rfl, hC, hK0, hb0, hR0⟩ := hI
                    have e4 : xs 4 = .bool false := (hC 4 (hd ⟨4, .data⟩ (by simp) rfl)) _ rfl
                    have e9 : xs 9 = .bool false := (hC 9 (hd ⟨9, .data⟩ (by simp) rfl)) _ rfl
                    have hK2 := Lib.hid hK
                    have hC2 := Lib.hid hC
                    clear hd hK hC h0
                    go_simp
                    exact hK2.out _ _ ⟨updV xs 10 (.bool false), by simp [updV, e4, e9], cond_set hC2.out (fun _ _ h => h) (CV.of rfl rfl), hK0, hb0, hR0⟩
                  · intro listed a w' hs hI h0 hd K2 hK
                    obtain ⟨xs, rfl, hC, hK0, hb0, hR0⟩ := hI
                    have e10 : xs 10 = .bool false := (hC 10 (hd ⟨10, .data⟩ (by simp) rfl)) _ rfl
                    have hK2 := Lib.hid hK
                    have hC2 := Lib.hid hC
                    clear hd hK hC h0
                    go_simp
                    exact hK2.out _ _ ⟨updV xs 11 (.bool false), by simp [updV, e10], cond_set hC2.out (fun _ _ h => h) (CV.of rfl rfl), hK0, hb0, hR0⟩
                  · intro listed a w' hs hI h0 hd K2 hK
                    obtain ⟨xs, rfl, hC, hK0, hb0, hR0⟩ := hI
                    have e11 : xs 11 = .bool false := (hC 11 (hd ⟨11, .guard⟩ (by simp) rfl)) _ rfl
                    have hK2 := Lib.hid hK
                    have hC2 := Lib.hid hC
                    clear hd hK hC h0
                    go_simp
                    exact hK2.out _ _ ⟨updV xs 12 (.int .i64 (jj : Int)), by simp [updV, e11], cond_set hC2.out (fun _ _ h => h) (CV.of rfl rfl), hK0, hb0, hR0⟩
                  · intro listed a w' hs hI h0 hd K2 hK
                    obtain ⟨xs, rfl, hC, hK0, hb0, hR0⟩ := hI
                    have e11 : xs 11 = .bool false := (hC 11 (hd ⟨11, .guard⟩ (by simp) rfl)) _ rfl
                    have e12 : xs 12 = .int .i64 (jj : Int) := (hC 12 (hd ⟨12, .data⟩ (by simp) rfl)) _ rfl
                    have hK2 := Lib.hid hK
                    have hC2 := Lib.hid hC
                    clear hd hK hC h0
                    go_simp
                    exact hK2.out _ _ ⟨updV xs 13 (.bool true), by simp [updV, e11, e12], cond_set hC2.out (fun _ _ h => h) (CV.of rfl rfl), hK0, hb0, hR0⟩
                  · intro listed a w' hs hI h0 hd K2 hK
                    obtain ⟨xs, rfl, hC, hK0, hb0, hR0⟩ := hI
                    have e11 : xs 11 = .bool false := (hC 11 (hd ⟨11, .guard⟩ (by simp) rfl)) _ rfl
                    have e13 : xs 13 = .bool true := (hC 13 (hd ⟨13, .data⟩ (by simp) rfl)) _ rfl
                    have hK2 := Lib.hid hK
                    have hC2 := Lib.hid hC
                    clear hd hK hC h0
                    go_simp
                    exact hK2.out _ _ ⟨updV xs 14 (.bool true), by simp [updV, e11, e13], cond_set hC2.out (fun _ _ h => h) (CV.of rfl rfl), hK0, hb0, hR0⟩
                  · intro listed a w' hs hI h0 hd K2 hK
                    obtain ⟨xs, rfl, hC, hK0, hb0, hR0⟩ := hI
                    have e14 : xs 14 = .bool true := (hC 14 (hd ⟨14, .guard⟩ (by simp) rfl)) _ rfl
                    have hK2 := Lib.hid hK
                    have hC2 := Lib.hid hC
                    clear hd hK hC h0
                    go_simp
                    exact hK2.out _ _ ⟨updV xs 15 (.slice (some ⟨bP, oP, none⟩) m pc), by simp [updV, e14], cond_set hC2.out (fun _ _ h => h) (CV.of rfl rfl), hK0, hb0, hR0⟩
                  · intro listed a w' hs hI h0 hd K2 hK
                    obtain ⟨xs, rfl, hC, hK0, hb0, hR0⟩ := hI
                    have e14 : xs 14 = .bool true := (hC 14 (hd ⟨14, .guard⟩ (by simp) rfl)) _ rfl
                    have hK2 := Lib.hid hK
                    have hC2 := Lib.hid hC
                    clear hd hK hC h0
                    go_simp
                    exact hK2.out _ _ ⟨updV xs 16 (.int .i64 (jj : Int)), by simp [updV, e14], cond_set hC2.out (fun _ _ h => h) (CV.of rfl rfl), hK0, hb0, hR0⟩
                  · intro listed a w' hs hI h0 hd K2 hK
                    obtain ⟨xs, rfl, hC, hK0, hb0, hR0⟩ := hI
                    have e14 : xs 14 = .bool true := (hC 14 (hd ⟨14, .guard⟩ (by simp) rfl)) _ rfl
                    have e16 : xs 16 = .int .i64 (jj : Int) := (hC 16 (hd ⟨16, .data⟩ (by simp) rfl)) _ rfl
                    have hK2 := Lib.hid hK
                    have hC2 := Lib.hid hC
                    clear hd hK hC h0
                    go_simp
                    exact hK2.out _ _ ⟨updV xs 17 (.int .i64 ((jj : Int) - 1)), by simp [updV, e14, e16], cond_set hC2.out (fun _ _ h => h) (CV.of rfl rfl), hK0, hb0, hR0⟩
                  · intro listed a w' hs hI h0 hd K2 hK
                    obtain ⟨xs, rfl, hC, hK0, hb0, hR0⟩ := hI
                    have e14 : xs 14 = .bool true := (hC 14 (hd ⟨14, .guard⟩ (by simp) rfl)) _ rfl
                    have e15 : xs 15 = .slice (some ⟨bP, oP, none⟩) m pc := (hC 15 (hd ⟨15, .data⟩ (by simp) rfl)) _ rfl
                    have e17 : xs 17 = .int .i64 ((jj : Int) - 1) := (hC 17 (hd ⟨17, .data⟩ (by simp) rfl)) _ rfl
                    have hK2 := Lib.hid hK
                    have hC2 := Lib.hid hC
                    have hw6 : jj - 1 < m := by omega
                    have hw7 : (1 : Int) ≤ (jj : Int) := by omega
                    clear hd hK hC h0
                    go_simp
                    exact hK2.out _ _ ⟨updV xs 18 (.pointer (some ⟨bP, oP + (jj - 1) * 3, none⟩)), by simp [updV, e14, e15, e17], cond_set hC2.out (fun _ _ h => h) (CV.of rfl rfl), hK0, hb0, hR0⟩
                  · intro listed a w' hs hI h0 hd K2 hK
                    obtain ⟨xs, rfl, hC, hK0, hb0, hR0⟩ := hI
                    have e14 : xs 14 = .bool true := (hC 14 (hd ⟨14, .guard⟩ (by simp) rfl)) _ rfl
                    have e18 : xs 18 = .pointer (some ⟨bP, oP + (jj - 1) * 3, none⟩) := (hC 18 (hd ⟨18, .data⟩ (by simp) rfl)) _ rfl
                    have hK2 := Lib.hid hK
                    have hC2 := Lib.hid hC
                    clear hd hK hC h0
                    go_simp
                    exact hK2.out _ _ ⟨updV xs 19 (.pointer (some ⟨bP, oP + (jj - 1) * 3 + 1, none⟩)), by simp [updV, e14, e18], cond_set hC2.out (fun _ _ h => h) (CV.of rfl rfl), hK0, hb0, hR0⟩
                  · intro listed a w' hs hI h0 hd K2 hK
                    obtain ⟨xs, rfl, hC, hK0, hb0, hR0⟩ := hI
                    have e14 : xs 14 = .bool true := (hC 14 (hd ⟨14, .guard⟩ (by simp) rfl)) _ rfl
                    have e19 : xs 19 = .pointer (some ⟨bP, oP + (jj - 1) * 3 + 1, none⟩) := (hC 19 (hd ⟨19, .data⟩ (by simp) rfl)) _ rfl
                    have hK2 := Lib.hid hK
                    have hC2 := Lib.hid hC
                    have y1 := ((kP _ _ hK0).cells hy).2.1
                    rw [hyt] at y1
                    clear hd hK hC h0
                    go_simp
                    exact hK2.out _ _ ⟨updV xs 20 (.int .i64 xf), by simp [updV, e14, e19], cond_set hC2.out (fun _ _ h => h) (CV.of rfl rfl), hK0, hb0, hR0⟩
                  · intro listed a w' hs hI h0 hd K2 hK
                    obtain ⟨xs, rfl, hC, hK0, hb0, hR0⟩ := hI
                    have e14 : xs 14 = .bool true := (hC 14 (hd ⟨14, .guard⟩ (by simp) rfl)) _ rfl
                    have hK2 := Lib.hid hK
                    have hC2 := Lib.hid hC
                    clear hd hK hC h0
                    go_simp
                    exact hK2.out _ _ ⟨updV xs 21 (.pointer (some ⟨b5, 0, none⟩)), by simp [updV, e14], cond_set hC2.out (fun _ _ h => h) (CV.of rfl rfl), hK0, hb0, hR0⟩
                  · intro listed a w' hs hI h0 hd K2 hK
                    obtain ⟨xs, rfl, hC, hK0, hb0, hR0⟩ := hI
                    have e14 : xs 14 = .bool true := (hC 14 (hd ⟨14, .guard⟩ (by simp) rfl)) _ rfl
                    have e21 : xs 21 = .pointer (some ⟨b5, 0, none⟩) := (hC 21 (hd ⟨21, .data⟩ (by simp) rfl)) _ rfl
                    have hK2 := Lib.hid hK
                    have hC2 := Lib.hid hC
                    have y0 := (blk_facts hb0).1 0
                    clear hd hK hC h0
                    go_simp
                    exact hK2.out _ _ ⟨updV xs 22 (.int .i64 xf), by simp [updV, e14, e21], cond_set hC2.out (fun _ _ h => h) (CV.of rfl rfl), hK0, hb0, hR0⟩
                  · intro listed a w' hs hI h0 hd K2 hK
                    obtain ⟨xs, rfl, hC, hK0, hb0, hR0⟩ := hI
                    have e14 : xs 14 = .bool true := (hC 14 (hd ⟨14, .guard⟩ (by simp) rfl)) _ rfl
                    have e20 : xs 20 = .int .i64 xf := (hC 20 (hd ⟨20, .data⟩ (by simp) rfl)) _ rfl
                    have e22 : xs 22 = .int .i64 xf := (hC 22 (hd ⟨22, .data⟩ (by simp) rfl)) _ rfl
                    have hK2 := Lib.hid hK
                    have hC2 := Lib.hid hC
                    clear hd hK hC h0
                    go_simp
                    exact hK2.out _ _ ⟨updV xs 23 (.bool false), by simp [updV, e14, e20, e22], cond_set hC2.out (fun _ _ h => h) (CV.of rfl rfl), hK0, hb0, hR0⟩
                  · intro listed a w' hs hI h0 hd K2 hK
                    obtain ⟨xs, rfl, hC, hK0, hb0, hR0⟩ := hI
                    have e14 : xs 14 = .bool true := (hC 14 (hd ⟨14, .guard⟩ (by simp) rfl)) _ rfl
                    have e23 : xs 23 = .bool false := (hC 23 (hd ⟨23, .data⟩ (by simp) rfl)) _ rfl
                    have hK2 := Lib.hid hK
                    have hC2 := Lib.hid hC
                    clear hd hK hC h0
                    go_simp
                    exact hK2.out _ _ ⟨updV xs 24 (.bool false), by simp [updV, e14, e23], cond_set hC2.out (fun _ _ h => h) (CV.of rfl rfl), hK0, hb0, hR0⟩
                  · intro listed a w' hs hI h0 hd K2 hK
                    obtain ⟨xs, rfl, hC, hK0, hb0, hR0⟩ := hI
                    have e24 : xs 24 = .bool false := (hC 24 (hd ⟨24, .guard⟩ (by simp) rfl)) _ rfl
                    have hK2 := Lib.hid hK
                    have hC2 := Lib.hid hC
                    clear hd hK hC h0
                    go_simp
                    exact hK2.out _ _ ⟨updV xs 25 (.slice (some ⟨bP, oP, none⟩) m pc), by simp [updV, e24], cond_set hC2.out (fun _ _ h => h) (CV.of rfl rfl), hK0, hb0, hR0⟩
                  · intro listed a w' hs hI h0 hd K2 hK
                    obtain ⟨xs, rfl, hC, hK0, hb0, hR0⟩ := hI
                    have e24 : xs 24 = .bool false := (hC 24 (hd ⟨24, .guard⟩ (by simp) rfl)) _ rfl
                    have hK2 := Lib.hid hK
                    have hC2 := Lib.hid hC
                    clear hd hK hC h0
                    go_simp
                    exact hK2.out _ _ ⟨updV xs 26 (.int .i64 (jj : Int)), by simp [updV, e24], cond_set hC2.out (fun _ _ h => h) (CV.of rfl rfl), hK0, hb0, hR0⟩
                  · intro listed a w' hs hI h0 hd K2 hK
                    obtain ⟨xs, rfl, hC, hK0, hb0, hR0⟩ := hI
                    have e24 : xs 24 = .bool false := (hC 24 (hd ⟨24, .guard⟩ (by simp) rfl)) _ rfl
                    have e26 : xs 26 = .int .i64 (jj : Int) := (hC 26 (hd ⟨26, .data⟩ (by simp) rfl)) _ rfl
                    have hK2 := Lib.hid hK
                    have hC2 := Lib.hid hC
                    clear hd hK hC h0
                    go_simp
                    exact hK2.out _ _ ⟨updV xs 27 (.int .i64 ((jj : Int) - 1)), by simp [updV, e24, e26], cond_set hC2.out (fun _ _ h => h) (CV.of rfl rfl), hK0, hb0, hR0⟩
                  · intro listed a w' hs hI h0 hd K2 hK
                    obtain ⟨xs, rfl, hC, hK0, hb0, hR0⟩ := hI
                    have e24 : xs 24 = .bool false := (hC 24 (hd ⟨24, .guard⟩ (by simp) rfl)) _ rfl
                    have e25 : xs 25 = .slice (some ⟨bP, oP, none⟩) m pc := (hC 25 (hd ⟨25, .data⟩ (by simp) rfl)) _ rfl
                    have e27 : xs 27 = .int .i64 ((jj : Int) - 1) := (hC 27 (hd ⟨27, .data⟩ (by simp) rfl)) _ rfl
                    have hK2 := Lib.hid hK
                    have hC2 := Lib.hid hC
                    have hw6 : jj - 1 < m := by omega
                    have hw7 : (1 : Int) ≤ (jj : Int) := by omega
                    clear hd hK hC h0
                    go_simp
                    exact hK2.out _ _ ⟨updV xs 28 (.pointer (some ⟨bP, oP + (jj - 1) * 3, none⟩)), by simp [updV, e24, e25, e27], cond_set hC2.out (fun _ _ h => h) (CV.of rfl rfl), hK0, hb0, hR0⟩
                  · intro listed a w' hs hI h0 hd K2 hK
                    obtain ⟨xs, rfl, hC, hK0, hb0, hR0⟩ := hI
                    have e24 : xs 24 = .bool false := (hC 24 (hd ⟨24, .guard⟩ (by simp) rfl)) _ rfl
                    have e28 : xs 28 = .pointer (some ⟨bP, oP + (jj - 1) * 3, none⟩) := (hC 28 (hd ⟨28, .data⟩ (by simp) rfl)) _ rfl
                    have hK2 := Lib.hid hK
                    have hC2 := Lib.hid hC
                    clear hd hK hC h0
                    go_simp
                    exact hK2.out _ _ ⟨updV xs 29 (.pointer (some ⟨bP, oP + (jj - 1) * 3 + 2, none⟩)), by simp [updV, e24, e28], cond_set hC2.out (fun _ _ h => h) (CV.of rfl rfl), hK0, hb0, hR0⟩
                  · intro listed a w' hs hI h0 hd K2 hK
                    obtain ⟨xs, rfl, hC, hK0, hb0, hR0⟩ := hI
                    have e24 : xs 24 = .bool false := (hC 24 (hd ⟨24, .guard⟩ (by simp) rfl)) _ rfl
                    have e29 : xs 29 = .pointer (some ⟨bP, oP + (jj - 1) * 3 + 2, none⟩) := (hC 29 (hd ⟨29, .data⟩ (by simp) rfl)) _ rfl
                    have hK2 := Lib.hid hK
                    have hC2 := Lib.hid hC
                    have y2 := ((kP _ _ hK0).cells hy).2.2.1
                    clear hd hK hC h0
                    go_simp
                    exact hK2.out _ _ ⟨updV xs 30 (.slice y.A y.n y.c), by simp [updV, e24, e29], cond_set hC2.out (fun _ _ h => h) (CV.of rfl rfl), hK0, hb0, hR0⟩
                  · intro listed a w' hs hI h0 hd K2 hK
                    obtain ⟨xs, rfl, hC, hK0, hb0, hR0⟩ := hI
                    have e24 : xs 24 = .bool false := (hC 24 (hd ⟨24, .guard⟩ (by simp) rfl)) _ rfl
                    have hK2 := Lib.hid hK
                    have hC2 := Lib.hid hC
                    clear hd hK hC h0
                    go_simp
                    exact hK2.out _ _ ⟨updV xs 31 (.pointer (some ⟨b5, 2, none⟩)), by simp [updV, e24], cond_set hC2.out (fun _ _ h => h) (CV.of rfl rfl), hK0, hb0, hR0⟩
                  · intro listed a w' hs hI h0 hd K2 hK
                    obtain ⟨xs, rfl, hC, hK0, hb0, hR0⟩ := hI
                    have e24 : xs 24 = .bool false := (hC 24 (hd ⟨24, .guard⟩ (by simp) rfl)) _ rfl
                    have e31 : xs 31 = .pointer (some ⟨b5, 2, none⟩) := (hC 31 (hd ⟨31, .data⟩ (by simp) rfl)) _ rfl
                    have hK2 := Lib.hid hK
                    have hC2 := Lib.hid hC
                    have y2 := (blk_facts hb0).1 2
                    clear hd hK hC h0
                    go_simp
                    exact hK2.out _ _ ⟨updV xs 32 (.slice xA xn xc), by simp [updV, e24, e31], cond_set hC2.out (fun _ _ h => h) (CV.of rfl rfl), hK0, hb0, hR0⟩
                  · intro listed a w' hs hI h0 hd K2 hK
                    obtain ⟨xs, rfl, hC, hK0, hb0, hR0⟩ := hI
                    have e24 : xs 24 = .bool false := (hC 24 (hd ⟨24, .guard⟩ (by simp) rfl)) _ rfl
                    have e30 : xs 30 = .slice y.A y.n y.c := (hC 30 (hd ⟨30, .data⟩ (by simp) rfl)) _ rfl
                    have e32 : xs 32 = .slice xA xn xc := (hC 32 (hd ⟨32, .data⟩ (by simp) rfl)) _ rfl
                    have hK2 := Lib.hid hK
                    have hC2 := Lib.hid hC
                    have hyr := Lib.hid ((kP _ _ hK0).cells hy).2.2.2
                    clear hd hK hC h0
                    go_simp
                    refine (equalSB_c _ _ _ _ _ _ _ _ _ hyr.out hR0).mono ?_; rintro e w14 ⟨rfl, q14, rfl⟩
                    rw [hye]
                    have B14 := below_drewN (Below.refl w'.heap.size w') q14
                    exact hK2.out _ _ ⟨updV xs 33 (.bool false), by simp [updV, e24, e30, e32], cond_set hC2.out (fun _ _ h => h) (CV.of rfl rfl), kb _ _ _ hK0 B14, blk_below hb0 B14, hR0.below B14⟩
                  · intro listed a w' hs hI h0 hd K2 hK
                    obtain ⟨xs, rfl, hC, hK0, hb0, hR0⟩ := hI
                    have e14 : xs 14 = .bool true := (hC 14 (hd ⟨14, .guard⟩ (by simp) rfl)) _ rfl
                    have e24 : xs 24 = .bool false := (hC 24 (hd ⟨24, .data⟩ (by simp) rfl)) _ rfl
                    have e33 : xs 33 = .bool false := (hC 33 (hd ⟨33, .data⟩ (by simp) rfl)) _ rfl
                    have hK2 := Lib.hid hK
                    have hC2 := Lib.hid hC
                    clear hd hK hC h0
                    go_simp
                    exact hK2.out _ _ ⟨updV xs 34 (.bool false), by simp [updV, e14, e24, e33], cond_set hC2.out (fun _ _ h => h) (CV.of rfl rfl), hK0, hb0, hR0⟩
                  · intro listed a w' hs hI h0 hd K2 hK
                    obtain ⟨xs, rfl, hC, hK0, hb0, hR0⟩ := hI
                    have e11 : xs 11 = .bool false := (hC 11 (hd ⟨11, .guard⟩ (by simp) rfl)) _ rfl
                    have e14 : xs 14 = .bool true := (hC 14 (hd ⟨14, .data⟩ (by simp) rfl)) _ rfl
                    have e34 : xs 34 = .bool false := (hC 34 (hd ⟨34, .data⟩ (by simp) rfl)) _ rfl
                    have hK2 := Lib.hid hK
                    have hC2 := Lib.hid hC
                    clear hd hK hC h0
                    go_simp
                    exact hK2.out _ _ ⟨updV xs 35 (.bool false), by simp [updV, e11, e14, e34], cond_set hC2.out (fun _ _ h => h) (CV.of rfl rfl), hK0, hb0, hR0⟩
                  · intro listed a w' hs hI h0 hd K2 hK
                    obtain ⟨xs, rfl, hC, hK0, hb0, hR0⟩ := hI
                    have e11 : xs 11 = .bool false := (hC 11 (hd ⟨11, .data⟩ (by simp) rfl)) _ rfl
                    have e35 : xs 35 = .bool false := (hC 35 (hd ⟨35, .data⟩ (by simp) rfl)) _ rfl
                    have hK2 := Lib.hid hK
                    have hC2 := Lib.hid hC
                    clear hd hK hC h0
                    go_simp
                    exact hK2.out _ _ ⟨updV xs 36 (.bool false), by simp [updV, e11, e35], cond_set hC2.out (fun _ _ h => h) (CV.of rfl rfl), hK0, hb0, hR0⟩
                case he =>
                  intro listed a w' hs hI hr
                  obtain ⟨xs, rfl, hC, hK0, hb0, hR0⟩ := hI
                  have eL : xs 36 = .bool false := (hC 36 (all_listed hs hr ⟨rfl, rfl, rfl, rfl, rfl, rfl, rfl, rfl, rfl, rfl, rfl, rfl, rfl, rfl, rfl, rfl, rfl, rfl, rfl, rfl, rfl, rfl, rfl, rfl, rfl, rfl, rfl, rfl, rfl, rfl, rfl, rfl, rfl, rfl, rfl, rfl, rfl, trivial⟩ 36 (by simp))) _ rfl
                  clear hC hs hr
                  go_wp2
                  go_meet
                  case rel => exact ⟨by first | exact eL | rfl, hK0, hb0, hR0⟩
                --R20b end
            case rest =>
              clear hx5 K5 hW5 hpv hlx
              rename World => wy
              obtain ⟨rfl, K, hx5, hW⟩ := hcut
              clear g2 g3 hjz
              go_upto_region 22 with (fail)
              have Kd : KK2 kk wy.drew := kb _ _ _ K (below_drewN (Below.refl _ _) 1)
              have z0 : wy.drew.cell? ⟨b5, 0, none⟩ = some (.int .i64 xf) := (blk_facts hx5).1 0
              have z1 : wy.drew.cell? ⟨b5, 1, none⟩ = some (.int .i64 xt) := (blk_facts hx5).1 1
              have r0 : wy.drew.cell? ⟨b4, 0, none⟩ = some (.string key) := (blk_facts (kR _ _ K)).1 0
              have r1 : wy.drew.cell? ⟨b4, 1, none⟩ = some (.int .i64 metres) := (blk_facts (kR _ _ K)).1 1
              have r2 : wy.drew.cell? ⟨b4, 2, none⟩ = some (.int .i64 stroke) := (blk_facts (kR _ _ K)).1 2
              have r3 : wy.drew.cell? ⟨b4, 3, none⟩ = some (.int .i64 course) := (blk_facts (kR _ _ K)).1 3
              have r4 : wy.drew.cell? ⟨b4, 4, none⟩ = some (.int .i64 legs) := (blk_facts (kR _ _ K)).1 4
              have r5 : wy.drew.cell? ⟨b4, 5, none⟩ = some (.int .i64 sex) := (blk_facts (kR _ _ K)).1 5
              have r6 : wy.drew.cell? ⟨b4, 6, none⟩ = some (.int .i64 young) := (blk_facts (kR _ _ K)).1 6
              have r7 : wy.drew.cell? ⟨b4, 7, none⟩ = some (.int .i64 old) := (blk_facts (kR _ _ K)).1 7
              have hwt : IntKind.i64.wrap (xt - 1) = xt - 1 := IntWalk.i64_in _ (by omega)
              go_region_held3 (fun w' => w'.cell? ⟨b5, 0, none⟩ = some (.int .i64 xf) ∧ w'.cell? ⟨b5, 1, none⟩ = some (.int .i64 xt) ∧ w'.cell? ⟨b4, 0, none⟩ = some (.string key) ∧ w'.cell? ⟨b4, 1, none⟩ = some (.int .i64 metres) ∧ w'.cell? ⟨b4, 2, none⟩ = some (.int .i64 stroke) ∧ w'.cell? ⟨b4, 3, none⟩ = some (.int .i64 course) ∧ w'.cell? ⟨b4, 4, none⟩ = some (.int .i64 legs) ∧ w'.cell? ⟨b4, 5, none⟩ = some (.int .i64 sex) ∧ w'.cell? ⟨b4, 6, none⟩ = some (.int .i64 young) ∧ w'.cell? ⟨b4, 7, none⟩ = some (.int .i64 old))
                (first
                  | with_reducible exact ⟨z0, z1, r0, r1, r2, r3, r4, r5, r6, r7⟩
                  | with_reducible exact ⟨p0, p1, q0, q1, q2, q3, q4, q5, q6, q7⟩
                  | with_reducible exact ⟨v0, v1, u0, u1, u2, u3, u4, u5, u6, u7⟩)
                (first
                  | (go_at_call 40; refine (rangeE_c w.heap.size zs kk xf (xt - 1) _ (kS _ _ Kd) (by omega) (by omega) (by omega) (by omega)).mono ?_; rintro e w6 ⟨tt, rfl, tt0, tt1, s6, g6⟩; have K6 := ks _ _ _ _ Kd s6 g6; have hx6 := blk_stream (w := wy.drew) hx5 (kS _ _ Kd) g6 (by decide); have hW6 := (show RS 9 wy.drew xA xn xw from hW).keep (T := 25) (by decide) ((kS _ _ Kd).keep g6); have p0 : w6.cell? ⟨b5, 0, none⟩ = some (.int .i64 xf) := (blk_facts hx6).1 0; have p1 : w6.cell? ⟨b5, 1, none⟩ = some (.int .i64 xt) := (blk_facts hx6).1 1; have q0 : w6.cell? ⟨b4, 0, none⟩ = some (.string key) := (blk_facts (kR _ _ K6)).1 0; have q1 : w6.cell? ⟨b4, 1, none⟩ = some (.int .i64 metres) := (blk_facts (kR _ _ K6)).1 1; have q2 : w6.cell? ⟨b4, 2, none⟩ = some (.int .i64 stroke) := (blk_facts (kR _ _ K6)).1 2; have q3 : w6.cell? ⟨b4, 3, none⟩ = some (.int .i64 course) := (blk_facts (kR _ _ K6)).1 3; have q4 : w6.cell? ⟨b4, 4, none⟩ = some (.int .i64 legs) := (blk_facts (kR _ _ K6)).1 4; have q5 : w6.cell? ⟨b4, 5, none⟩ = some (.int .i64 sex) := (blk_facts (kR _ _ K6)).1 5; have q6 : w6.cell? ⟨b4, 6, none⟩ = some (.int .i64 young) := (blk_facts (kR _ _ K6)).1 6; have q7 : w6.cell? ⟨b4, 7, none⟩ = some (.int .i64 old) := (blk_facts (kR _ _ K6)).1 7)
                  | (go_at_call 19; refine (hAt.out A n c l tt _ (kF _ _ K6) (by omega) hfe (by omega) (by omega)).mono ?_; rintro e w7 ⟨wA, wc, rfl, hRW, B7⟩; have K7 := kb _ _ _ K6 B7; have hx7 := blk_below hx6 B7; have hW7 := hW6.below B7; have v0 : w7.cell? ⟨b5, 0, none⟩ = some (.int .i64 xf) := (blk_facts hx7).1 0; have v1 : w7.cell? ⟨b5, 1, none⟩ = some (.int .i64 xt) := (blk_facts hx7).1 1; have u0 : w7.cell? ⟨b4, 0, none⟩ = some (.string key) := (blk_facts (kR _ _ K7)).1 0; have u1 : w7.cell? ⟨b4, 1, none⟩ = some (.int .i64 metres) := (blk_facts (kR _ _ K7)).1 1; have u2 : w7.cell? ⟨b4, 2, none⟩ = some (.int .i64 stroke) := (blk_facts (kR _ _ K7)).1 2; have u3 : w7.cell? ⟨b4, 3, none⟩ = some (.int .i64 course) := (blk_facts (kR _ _ K7)).1 3; have u4 : w7.cell? ⟨b4, 4, none⟩ = some (.int .i64 legs) := (blk_facts (kR _ _ K7)).1 4; have u5 : w7.cell? ⟨b4, 5, none⟩ = some (.int .i64 sex) := (blk_facts (kR _ _ K7)).1 5; have u6 : w7.cell? ⟨b4, 6, none⟩ = some (.int .i64 young) := (blk_facts (kR _ _ K7)).1 6; have u7 : w7.cell? ⟨b4, 7, none⟩ = some (.int .i64 old) := (blk_facts (kR _ _ K7)).1 7))
              clear z0 z1 r0 r1 r2 r3 r4 r5 r6 r7 p0 p1 q0 q1 q2 q3 q4 q5 q6 q7 v0 v1 u0 u1 u2 u3 u4 u5 u6 u7 K Kd hx5 hW hx6 hW6 K6 s6 g6 B7 hwt
              obtain ⟨hWl, hWa, hWb⟩ := hWo.out l tt hfe (by omega) (by omega)
              have hct := Lib.hid (show ∀ z0 ∈ whL ⟨key, metres, stroke, course, legs, sex, young, old⟩ tt l, ∀ w0 : Wh, (whL ⟨key, metres, stroke, course, legs, sex, young, old⟩ tt l)[0]? = some w0 → Lib.containsS xw z0.who = fEq z0.num z0.den w0.num w0.den from fun z0 hz0 w0 hw0 => by
                obtain ⟨q, hq⟩ := List.mem_iff_getElem?.1 hz0
                have h1 := hWa q z0 w0 hq hw0
                rw [← hwho'.out tt (by omega) (by omega)] at h1
                unfold fEq
                rw [Bool.eq_iff_iff, Lib.containsS_iff, decide_eq_true_iff]
                exact h1.symm)
              have hls := Lib.hid hWb
              clear hWa hWb hWl hwho' hAt hWo
              generalize whL ⟨key, metres, stroke, course, legs, sex, young, old⟩ tt l = ws at *
              obtain ⟨bW, oW, w0, hwA, hbW, hw0, _⟩ := RN.at_ hRW (k := 0) (by omega)
              subst hwA
              go_wp2_with fail
              go_loopw [143] (fun i wr => ∃ (q : Nat), q ≤ n ∧ i = .int .i64 q ∧ KK2 (kk + 1) wr ∧ wr.heap[b5]? = some (.cells #[.int .i64 xf, .int .i64 xt, .slice xA xn xc] 86 (0, 0)) ∧ RS 9 wr xA xn xw ∧ RWh wr (some ⟨bW, oW, none⟩) n ws) (fun i _ => n - (intOf i).toNat)
              case atStart => exact ⟨0, Nat.zero_le _, rfl, K7, hx7, hW7, hRW⟩
              case round =>
                clear K7 hx7 hW7 hRW hbW
                obtain ⟨q, hq, rfl, K, hx6, hW6, hQ6⟩ := hrel
                by_cases hql : q < n
                · obtain ⟨z, hz⟩ := at_of_lt (l := ws) (k := q) (by rw [RN.len hQ6]; exact hql)
                  obtain ⟨c0, c1, c2⟩ := hQ6.cells hz
                  have hcz := Lib.hid (hct.out z (List.mem_of_getElem? hz) w0 hw0)
                  have hyz := Lib.hid (fun y (hy : ws[q - 1]? = some y) (h : 0 < q) => hls.out (q - 1) y z hy (by rw [show q - 1 + 1 = q by omega]; exact hz))
                  obtain ⟨zw, zn, zd⟩ := z
                  dsimp only at *
                  clear hz
                  have hbW := lt_of_heap hx6
                  have hz6 := heap_alloc_new wr (.cells #[.string zw, .int .i64 zn, .int .i64 zd] 67)
                  have K6 := kb _ _ _ K (below_new wr (.cells #[.string zw, .int .i64 zn, .int .i64 zd] 67))
                  have hx6 := blk_alloc hx6 (.cells #[.string zw, .int .i64 zn, .int .i64 zd] 67)
                  have hW6 := hW6.alloc (.cells #[.string zw, .int .i64 zn, .int .i64 zd] 67)
                  have hQ6 := RN.alloc hQ6 (.cells #[.string zw, .int .i64 zn, .int .i64 zd] 67)
                  clear K
                  go_upto_region 28 with (fail)
                  generalize hw6 : wr.alloc (.cells #[.string zw, .int .i64 zn, .int .i64 zd] 67) = w6 at *
                  generalize hb16 : wr.heap.size = b16 at *
                  clear hw6 c0 c1 c2
                  have hFQ : ∀ (a b c d : Int) (w : World), (binOp .eql 65 (.agg #[.int .i64 a, .int .i64 b]) (.agg #[.int .i64 c, .int .i64 d])).run Tryz.prog w = .ok (.bool (fEq a b c d)) w := fun a b c d w => fEq_run a b c d w
                  have hcz1 := hcz.out
                  go_cut [186] (fun v wx => v = .bool false ∧ KK2 (kk + 1) wx ∧ wx.heap[b5]? = some (.cells #[.int .i64 xf, .int .i64 xt, .slice xA xn xc] 86 (0, 0)) ∧ wx.heap[b16]? = some (.cells #[.string zw, .int .i64 zn, .int .i64 zd] 67 (0, 0)) ∧ RS 9 wx xA xn xw ∧ RWh wx (some ⟨bW, oW, none⟩) n ws)
                  case first =>
                    by_cases hq0 : q = 0
                    · have hqn : ¬ (0 : Int) < (q : Int) := by omega
                      have hq1 := Lib.hid hq0
                      clear hyz hq0
                      --R28a
                      refine wp_region_inv (by kernel_rfl) (fun listed a w' => ∃ xs : Nat → Value, a = { tmps := #[Value.slice a0 len0 cap0, undef, u2, Value.pointer (some { block := w.heap.size, off := 0 }), Value.pointer (some { block := b4, off := 0 }), Value.slice A n c, Value.slice (some { block := bP, off := oP }) m pc, Value.int IntKind.i64 0, Value.int IntKind.i64 ↑N, undef, u10, Value.int IntKind.i64 ↑jj, Value.pointer (some { block := b5, off := 0 }), Value.slice (some { block := bW, off := oW }) n wc, Value.int IntKind.i64 0, Value.int IntKind.i64 ↑q, Value.pointer (some { block := b16, off := 0 }), Value.slice a0 len0 cap0, Value.agg #[Value.slice a0 len0 cap0, Value.int IntKind.i64 0], Value.pointer (some { block := w.heap.size, off := 0 }), Value.pointer (some { block := w.heap.size, off := 0 }), Value.agg #[Value.string key, Value.int IntKind.i64 metres, Value.int IntKind.i64 stroke, Value.int IntKind.i64 course, Value.int IntKind.i64 legs, Value.int IntKind.i64 sex, Value.int IntKind.i64 young, Value.int IntKind.i64 old], Value.pointer (some { block := w.heap.size, off := 0 }), Value.agg #[Value.string key, Value.int IntKind.i64 metres, Value.int IntKind.i64 stroke, Value.int IntKind.i64 course, Value.int IntKind.i64 legs, Value.int IntKind.i64 sex, Value.int IntKind.i64 young, Value.int IntKind.i64 old], Value.slice A n c, Value.slice A n c, Value.int IntKind.i64 ↑n, Value.bool false, undef, Value.tuple #[Value.slice (some { block := bP, off := oP }) m pc, Value.int IntKind.i64 0], Value.agg #[Value.string key, Value.int IntKind.i64 metres, Value.int IntKind.i64 stroke, Value.int IntKind.i64 course, Value.int IntKind.i64 legs, Value.int IntKind.i64 sex, Value.int IntKind.i64 young, Value.int IntKind.i64 old], Value.slice A n c, Value.tuple #[Value.slice (some { block := bP, off := oP }) m pc, Value.int IntKind.i64 0], Value.slice (some { block := bP, off := oP }) m pc, Value.int IntKind.i64 0, Value.int IntKind.i64 0, Value.bool false, Value.bool false, Value.slice (some { block := bP, off := oP }) m pc, Value.int IntKind.i64 ↑m, Value.bool false, Value.bool false, Value.bool false, Value.slice (some { block := bP, off := oP }) m pc, Value.pointer (some { block := bP, off := oP }), Value.pointer (some { block := bP, off := oP }), Value.int IntKind.i64 0, Value.bool false, Value.bool false, Value.slice A n c, Value.int IntKind.i64 ↑n, Value.int IntKind.i64 ↑n, Value.bool false, u53, u54, u55, u56, u57, u58, u59, u60, u61, u62, u63, u64, u65, Value.slice (some { block := bP, off := oP }) m pc, Value.slice (some { block := bP, off := oP }) m pc, Value.int IntKind.i64 ↑m, Value.int IntKind.i64 (↑m - 1), Value.pointer (some { block := bP, off := oP + (m - 1) * 3 }), Value.pointer (some { block := bP, off := oP + (m - 1) * 3 + 1 }), Value.int IntKind.i64 ↑N, Value.int IntKind.i64 ↑N, Value.bool false, Value.slice (some { block := bP, off := oP }) m pc, Value.int IntKind.i64 ↑m, Value.int IntKind.i64 ↑jj, u78, u79, u80, u81, u82, u83, u84, u85, u86, u87, u88, u89, u90, u91, u92, u93, u94, u95, u96, u97, u98, u99, u100, u101, u102, u103, u104, u105, u106, u107, u108, u109, u110, u111, u112, u113, u114, u115, u116, u117, Value.bool false, Value.tuple #[Value.slice (some { block := bW, off := oW }) n wc, Value.int IntKind.i64 0], Value.agg #[Value.string key, Value.int IntKind.i64 metres, Value.int IntKind.i64 stroke, Value.int IntKind.i64 course, Value.int IntKind.i64 legs, Value.int IntKind.i64 sex, Value.int IntKind.i64 young, Value.int IntKind.i64 old], Value.slice A n c, Value.pointer (some { block := w.heap.size, off := 0 }), Value.pointer (some { block := b5, off := 0 }), Value.int IntKind.i64 xf, Value.pointer (some { block := b5, off := 1 }), Value.int IntKind.i64 xt, Value.int IntKind.i64 (xt - 1), Value.int IntKind.i64 tt, Value.tuple #[Value.slice (some { block := bW, off := oW }) n wc, Value.int IntKind.i64 0], Value.slice (some { block := bW, off := oW }) n wc, Value.int IntKind.i64 0, Value.int IntKind.i64 0, Value.bool false, Value.bool false, Value.slice (some { block := bW, off := oW }) n wc, Value.int IntKind.i64 ↑n, Value.slice A n c, Value.int IntKind.i64 ↑n, Value.bool false, Value.bool false, Value.slice (some { block := bW, off := oW }) n wc, Value.int IntKind.i64 ↑n, Value.int IntKind.i64 ↑q, Value.bool true, Value.int IntKind.i64 ↑q, Value.pointer (some { block := bW, off := oW + q * 3 }), Value.agg #[Value.string zw, Value.int IntKind.i64 zn, Value.int IntKind.i64 zd], xs 0, xs 1, xs 2, xs 3, xs 4, xs 5, xs 6, xs 7, xs 8, xs 9, xs 10, xs 11, xs 12, xs 13, xs 14, xs 15, xs 16, xs 17, xs 18, xs 19, xs 20, xs 21, xs 22, xs 23, xs 24, xs 25, xs 26, xs 27, xs 28, xs 29, xs 30, xs 31, xs 32, xs 33, xs 34, xs 35, xs 36, xs 37, xs 38, u187, u188, undef], defers := [] } ∧ (∀ j, listed.getD j false = true → CV [some (.pointer (some ⟨b16, 1, none⟩)), some (.agg #[.int .i64 zn, .int .i64 zd]), some (.slice (some ⟨bW, oW, none⟩) n wc), some (.pointer (some ⟨bW, oW, none⟩)), some (.pointer (some ⟨bW, oW + 1, none⟩)), some (.agg #[.int .i64 w0.num, .int .i64 w0.den]), some (.bool (fEq zn zd w0.num w0.den)), some (.pointer (some ⟨b5, 2, none⟩)), some (.slice xA xn xc), some (.pointer (some ⟨b16, 0, none⟩)), some (.string zw), some (.bool (fEq zn zd w0.num w0.den)), some (.bool false), some (.bool false), some (.int .i64 (q : Int)), some (.bool false), some (.bool false), some (undef), some (undef), some (undef), some (undef), some (undef), some (undef), some (undef), some (undef), some (undef), some (.bool false), some (.bool false), some (undef), some (undef), some (undef), some (undef), some (undef), some (undef), some (undef), some (undef), some (undef), some (.bool false), some (.bool false)] j w' (xs j)) ∧ KK2 (kk + 1) w' ∧ w'.heap[b5]? = some (.cells #[.int .i64 xf, .int .i64 xt, .slice xA xn xc] 86 (0, 0)) ∧ w'.heap[b16]? = some (.cells #[.string zw, .int .i64 zn, .int .i64 zd] 67 (0, 0)) ∧ RS 9 w' xA xn xw ∧ RWh w' (some ⟨bW, oW, none⟩) n ws) ?h0 (AllOps.of ?hs) ?he
                      case h0 => exact ⟨fun j => match j with | 0 => u148 | 1 => u149 | 2 => u150 | 3 => u151 | 4 => u152 | 5 => u153 | 6 => u154 | 7 => u155 | 8 => u156 | 9 => u157 | 10 => u158 | 11 => u159 | 12 => u160 | 13 => u161 | 14 => u162 | 15 => u163 | 16 => u164 | 17 => u165 | 18 => u166 | 19 => u167 | 20 => u168 | 21 => u169 | 22 => u170 | 23 => u171 | 24 => u172 | 25 => u173 | 26 => u174 | 27 => u175 | 28 => u176 | 29 => u177 | 30 => u178 | 31 => u179 | 32 => u180 | 33 => u181 | 34 => u182 | 35 => u183 | 36 => u184 | 37 => u185 | 38 => u186 | _ => undef, rfl, (fun j hj => by rw [rep_false] at hj; cases hj), kb _ _ _ K6 (below_drewN (Below.refl _ _) 1), hx6, hz6, hW6, hQ6⟩
                      case hs =>
                        refine ⟨?_, ?_, ?_, ?_, ?_, ?_, ?_, ?_, ?_, ?_, ?_, ?_, ?_, ?_, ?_, ?_, ?_, ?_, ?_, ?_, ?_, ?_, ?_, ?_, ?_, ?_, ?_, ?_, ?_, ?_, ?_, ?_, ?_, ?_, ?_, ?_, ?_, ?_, ?_, trivial⟩
                        · intro listed a w' hs hI h0 hd K2 hK
                          obtain ⟨xs, rfl, hC, hK0, hb0, hz0, hR0, hQ0⟩ := hI
                          have hK2 := Lib.hid hK
                          have hC2 := Lib.hid hC
                          clear hd hK hC h0
                          go_simp
                          exact hK2.out _ _ ⟨updV xs 0 (.pointer (some ⟨b16, 1, none⟩)), by simp [updV], cond_set hC2.out (fun _ _ h => h) (CV.of rfl rfl), hK0, hb0, hz0, hR0, hQ0⟩
                        · intro listed a w' hs hI h0 hd K2 hK
                          obtain ⟨xs, rfl, hC, hK0, hb0, hz0, hR0, hQ0⟩ := hI
                          have e0 : xs 0 = .pointer (some ⟨b16, 1, none⟩) := (hC 0 (hd ⟨0, .data⟩ (by simp) rfl)) _ rfl
                          have hK2 := Lib.hid hK
                          have hC2 := Lib.hid hC
                          have y1 := (blk_facts hz0).1 1
                          have y2 := (blk_facts hz0).1 2
                          clear hd hK hC h0
                          go_simp
                          exact hK2.out _ _ ⟨updV xs 1 (.agg #[.int .i64 zn, .int .i64 zd]), by simp [updV, e0], cond_set hC2.out (fun _ _ h => h) (CV.of rfl rfl), hK0, hb0, hz0, hR0, hQ0⟩
                        · intro listed a w' hs hI h0 hd K2 hK
                          obtain ⟨xs, rfl, hC, hK0, hb0, hz0, hR0, hQ0⟩ := hI
                          have hK2 := Lib.hid hK
                          have hC2 := Lib.hid hC
                          clear hd hK hC h0
                          go_simp
                          exact hK2.out _ _ ⟨updV xs 2 (.slice (some ⟨bW, oW, none⟩) n wc), by simp [updV], cond_set hC2.out (fun _ _ h => h) (CV.of rfl rfl), hK0, hb0, hz0, hR0, hQ0⟩
                        · intro listed a w' hs hI h0 hd K2 hK
                          obtain ⟨xs, rfl, hC, hK0, hb0, hz0, hR0, hQ0⟩ := hI
                          have e2 : xs 2 = .slice (some ⟨bW, oW, none⟩) n wc := (hC 2 (hd ⟨2, .data⟩ (by simp) rfl)) _ rfl
                          have hK2 := Lib.hid hK
                          have hC2 := Lib.hid hC
                          have hn9 : 0 < n := by omega
                          clear hd hK hC h0
                          go_simp
                          exact hK2.out _ _ ⟨updV xs 3 (.pointer (some ⟨bW, oW, none⟩)), by simp [updV, e2], cond_set hC2.out (fun _ _ h => h) (CV.of rfl rfl), hK0, hb0, hz0, hR0, hQ0⟩
                        · intro listed a w' hs hI h0 hd K2 hK
                          obtain ⟨xs, rfl, hC, hK0, hb0, hz0, hR0, hQ0⟩ := hI
                          have e3 : xs 3 = .pointer (some ⟨bW, oW, none⟩) := (hC 3 (hd ⟨3, .data⟩ (by simp) rfl)) _ rfl
                          have hK2 := Lib.hid hK
                          have hC2 := Lib.hid hC
                          clear hd hK hC h0
                          go_simp
                          exact hK2.out _ _ ⟨updV xs 4 (.pointer (some ⟨bW, oW + 1, none⟩)), by simp [updV, e3], cond_set hC2.out (fun _ _ h => h) (CV.of rfl rfl), hK0, hb0, hz0, hR0, hQ0⟩
                        · intro listed a w' hs hI h0 hd K2 hK
                          obtain ⟨xs, rfl, hC, hK0, hb0, hz0, hR0, hQ0⟩ := hI
                          have e4 : xs 4 = .pointer (some ⟨bW, oW + 1, none⟩) := (hC 4 (hd ⟨4, .data⟩ (by simp) rfl)) _ rfl
                          have hK2 := Lib.hid hK
                          have hC2 := Lib.hid hC
                          obtain ⟨_, y1, y2⟩ := hQ0.cells hw0
                          rw [Nat.zero_mul, Nat.add_zero] at y1 y2
                          clear hd hK hC h0
                          go_simp
                          exact hK2.out _ _ ⟨updV xs 5 (.agg #[.int .i64 w0.num, .int .i64 w0.den]), by simp [updV, e4], cond_set hC2.out (fun _ _ h => h) (CV.of rfl rfl), hK0, hb0, hz0, hR0, hQ0⟩
                        · intro listed a w' hs hI h0 hd K2 hK
                          obtain ⟨xs, rfl, hC, hK0, hb0, hz0, hR0, hQ0⟩ := hI
                          have e1 : xs 1 = .agg #[.int .i64 zn, .int .i64 zd] := (hC 1 (hd ⟨1, .data⟩ (by simp) rfl)) _ rfl
                          have e5 : xs 5 = .agg #[.int .i64 w0.num, .int .i64 w0.den] := (hC 5 (hd ⟨5, .data⟩ (by simp) rfl)) _ rfl
                          have hK2 := Lib.hid hK
                          have hC2 := Lib.hid hC
                          clear hd hK hC h0
                          go_simp
                          exact hK2.out _ _ ⟨updV xs 6 (.bool (fEq zn zd w0.num w0.den)), by simp [updV, e1, e5], cond_set hC2.out (fun _ _ h => h) (CV.of rfl rfl), hK0, hb0, hz0, hR0, hQ0⟩
                        · intro listed a w' hs hI h0 hd K2 hK
                          obtain ⟨xs, rfl, hC, hK0, hb0, hz0, hR0, hQ0⟩ := hI
                          have hK2 := Lib.hid hK
                          have hC2 := Lib.hid hC
                          clear hd hK hC h0
                          go_simp
                          exact hK2.out _ _ ⟨updV xs 7 (.pointer (some ⟨b5, 2, none⟩)), by simp [updV], cond_set hC2.out (fun _ _ h => h) (CV.of rfl rfl), hK0, hb0, hz0, hR0, hQ0⟩
                        · intro listed a w' hs hI h0 hd K2 hK
                          obtain ⟨xs, rfl, hC, hK0, hb0, hz0, hR0, hQ0⟩ := hI
                          have e7 : xs 7 = .pointer (some ⟨b5, 2, none⟩) := (hC 7 (hd ⟨7, .data⟩ (by simp) rfl)) _ rfl
                          have hK2 := Lib.hid hK
                          have hC2 := Lib.hid hC
                          have y2 := (blk_facts hb0).1 2
                          clear hd hK hC h0
                          go_simp
                          exact hK2.out _ _ ⟨updV xs 8 (.slice xA xn xc), by simp [updV, e7], cond_set hC2.out (fun _ _ h => h) (CV.of rfl rfl), hK0, hb0, hz0, hR0, hQ0⟩
                        · intro listed a w' hs hI h0 hd K2 hK
                          obtain ⟨xs, rfl, hC, hK0, hb0, hz0, hR0, hQ0⟩ := hI
                          have hK2 := Lib.hid hK
                          have hC2 := Lib.hid hC
                          clear hd hK hC h0
                          go_simp
                          exact hK2.out _ _ ⟨updV xs 9 (.pointer (some ⟨b16, 0, none⟩)), by simp [updV], cond_set hC2.out (fun _ _ h => h) (CV.of rfl rfl), hK0, hb0, hz0, hR0, hQ0⟩
                        · intro listed a w' hs hI h0 hd K2 hK
                          obtain ⟨xs, rfl, hC, hK0, hb0, hz0, hR0, hQ0⟩ := hI
                          have e9 : xs 9 = .pointer (some ⟨b16, 0, none⟩) := (hC 9 (hd ⟨9, .data⟩ (by simp) rfl)) _ rfl
                          have hK2 := Lib.hid hK
                          have hC2 := Lib.hid hC
                          have y0 := (blk_facts hz0).1 0
                          clear hd hK hC h0
                          go_simp
                          exact hK2.out _ _ ⟨updV xs 10 (.string zw), by simp [updV, e9], cond_set hC2.out (fun _ _ h => h) (CV.of rfl rfl), hK0, hb0, hz0, hR0, hQ0⟩
                        · intro listed a w' hs hI h0 hd K2 hK
                          obtain ⟨xs, rfl, hC, hK0, hb0, hz0, hR0, hQ0⟩ := hI
                          have e8 : xs 8 = .slice xA xn xc := (hC 8 (hd ⟨8, .data⟩ (by simp) rfl)) _ rfl
                          have e10 : xs 10 = .string zw := (hC 10 (hd ⟨10, .data⟩ (by simp) rfl)) _ rfl
                          have hK2 := Lib.hid hK
                          have hC2 := Lib.hid hC
                          clear hd hK hC h0
                          go_simp
                          refine (hCo.out _ _ _ _ _ _ hR0).mono ?_; rintro e w14 ⟨rfl, rfl⟩
                          rw [hcz1]
                          exact hK2.out _ _ ⟨updV xs 11 (.bool (fEq zn zd w0.num w0.den)), by simp [updV, e8, e10], cond_set hC2.out (fun _ _ h => h) (CV.of rfl rfl), hK0, hb0, hz0, hR0, hQ0⟩
                        · intro listed a w' hs hI h0 hd K2 hK
                          obtain ⟨xs, rfl, hC, hK0, hb0, hz0, hR0, hQ0⟩ := hI
                          have e6 : xs 6 = .bool (fEq zn zd w0.num w0.den) := (hC 6 (hd ⟨6, .data⟩ (by simp) rfl)) _ rfl
                          have e11 : xs 11 = .bool (fEq zn zd w0.num w0.den) := (hC 11 (hd ⟨11, .data⟩ (by simp) rfl)) _ rfl
                          have hK2 := Lib.hid hK
                          have hC2 := Lib.hid hC
                          clear hd hK hC h0
                          go_simp
                          exact hK2.out _ _ ⟨updV xs 12 (.bool false), by simp [updV, e6, e11], cond_set hC2.out (fun _ _ h => h) (CV.of rfl rfl), hK0, hb0, hz0, hR0, hQ0⟩
                        · intro listed a w' hs hI h0 hd K2 hK
                          obtain ⟨xs, rfl, hC, hK0, hb0, hz0, hR0, hQ0⟩ := hI
                          have e12 : xs 12 = .bool false := (hC 12 (hd ⟨12, .data⟩ (by simp) rfl)) _ rfl
                          have hK2 := Lib.hid hK
                          have hC2 := Lib.hid hC
                          clear hd hK hC h0
                          go_simp
                          exact hK2.out _ _ ⟨updV xs 13 (.bool false), by simp [updV, e12], cond_set hC2.out (fun _ _ h => h) (CV.of rfl rfl), hK0, hb0, hz0, hR0, hQ0⟩
                        · intro listed a w' hs hI h0 hd K2 hK
                          obtain ⟨xs, rfl, hC, hK0, hb0, hz0, hR0, hQ0⟩ := hI
                          have e13 : xs 13 = .bool false := (hC 13 (hd ⟨13, .guard⟩ (by simp) rfl)) _ rfl
                          have hK2 := Lib.hid hK
                          have hC2 := Lib.hid hC
                          clear hd hK hC h0
                          go_simp
                          exact hK2.out _ _ ⟨updV xs 14 (.int .i64 (q : Int)), by simp [updV, e13], cond_set hC2.out (fun _ _ h => h) (CV.of rfl rfl), hK0, hb0, hz0, hR0, hQ0⟩
                        · intro listed a w' hs hI h0 hd K2 hK
                          obtain ⟨xs, rfl, hC, hK0, hb0, hz0, hR0, hQ0⟩ := hI
                          have e13 : xs 13 = .bool false := (hC 13 (hd ⟨13, .guard⟩ (by simp) rfl)) _ rfl
                          have e14 : xs 14 = .int .i64 (q : Int) := (hC 14 (hd ⟨14, .data⟩ (by simp) rfl)) _ rfl
                          have hK2 := Lib.hid hK
                          have hC2 := Lib.hid hC
                          clear hd hK hC h0
                          go_simp
                          exact hK2.out _ _ ⟨updV xs 15 (.bool false), by simp [updV, e13, e14]; exact hq1.out, cond_set hC2.out (fun _ _ h => h) (CV.of rfl rfl), hK0, hb0, hz0, hR0, hQ0⟩
                        · intro listed a w' hs hI h0 hd K2 hK
                          obtain ⟨xs, rfl, hC, hK0, hb0, hz0, hR0, hQ0⟩ := hI
                          have e13 : xs 13 = .bool false := (hC 13 (hd ⟨13, .guard⟩ (by simp) rfl)) _ rfl
                          have e15 : xs 15 = .bool false := (hC 15 (hd ⟨15, .data⟩ (by simp) rfl)) _ rfl
                          have hK2 := Lib.hid hK
                          have hC2 := Lib.hid hC
                          clear hd hK hC h0
                          go_simp
                          exact hK2.out _ _ ⟨updV xs 16 (.bool false), by simp [updV, e13, e15], cond_set hC2.out (fun _ _ h => h) (CV.of rfl rfl), hK0, hb0, hz0, hR0, hQ0⟩
                        · intro listed a w' hs hI h0 hd K2 hK
                          obtain ⟨xs, rfl, hC, hK0, hb0, hz0, hR0, hQ0⟩ := hI
                          have e16 : xs 16 = .bool false := (hC 16 (hd ⟨16, .guard⟩ (by simp) rfl)) _ rfl
                          have hK2 := Lib.hid hK
                          have hC2 := Lib.hid hC
                          clear hd hK hC h0
                          go_simp
                          exact hK2.out _ _ ⟨updV xs 17 (undef), by simp [updV, e16], cond_set hC2.out (fun _ _ h => h) (CV.of rfl rfl), hK0, hb0, hz0, hR0, hQ0⟩
                        · intro listed a w' hs hI h0 hd K2 hK
                          obtain ⟨xs, rfl, hC, hK0, hb0, hz0, hR0, hQ0⟩ := hI
                          have e16 : xs 16 = .bool false := (hC 16 (hd ⟨16, .guard⟩ (by simp) rfl)) _ rfl
                          have e17 : xs 17 = undef := (hC 17 (hd ⟨17, .data⟩ (by simp) rfl)) _ rfl
                          have hK2 := Lib.hid hK
                          have hC2 := Lib.hid hC
                          clear hd hK hC h0
                          go_simp
                          exact hK2.out _ _ ⟨updV xs 18 (undef), by simp [updV, e16, e17], cond_set hC2.out (fun _ _ h => h) (CV.of rfl rfl), hK0, hb0, hz0, hR0, hQ0⟩
                        · intro listed a w' hs hI h0 hd K2 hK
                          obtain ⟨xs, rfl, hC, hK0, hb0, hz0, hR0, hQ0⟩ := hI
                          have e16 : xs 16 = .bool false := (hC 16 (hd ⟨16, .guard⟩ (by simp) rfl)) _ rfl
                          have hK2 := Lib.hid hK
                          have hC2 := Lib.hid hC
                          clear hd hK hC h0
                          go_simp
                          exact hK2.out _ _ ⟨updV xs 19 (undef), by simp [updV, e16], cond_set hC2.out (fun _ _ h => h) (CV.of rfl rfl), hK0, hb0, hz0, hR0, hQ0⟩
                        · intro listed a w' hs hI h0 hd K2 hK
                          obtain ⟨xs, rfl, hC, hK0, hb0, hz0, hR0, hQ0⟩ := hI
                          have e16 : xs 16 = .bool false := (hC 16 (hd ⟨16, .guard⟩ (by simp) rfl)) _ rfl
                          have hK2 := Lib.hid hK
                          have hC2 := Lib.hid hC
                          clear hd hK hC h0
                          go_simp
                          exact hK2.out _ _ ⟨updV xs 20 (undef), by simp [updV, e16], cond_set hC2.out (fun _ _ h => h) (CV.of rfl rfl), hK0, hb0, hz0, hR0, hQ0⟩
                        · intro listed a w' hs hI h0 hd K2 hK
                          obtain ⟨xs, rfl, hC, hK0, hb0, hz0, hR0, hQ0⟩ := hI
                          have e16 : xs 16 = .bool false := (hC 16 (hd ⟨16, .guard⟩ (by simp) rfl)) _ rfl
                          have e20 : xs 20 = undef := (hC 20 (hd ⟨20, .data⟩ (by simp) rfl)) _ rfl
                          have hK2 := Lib.hid hK
                          have hC2 := Lib.hid hC
                          clear hd hK hC h0
                          go_simp
                          exact hK2.out _ _ ⟨updV xs 21 (undef), by simp [updV, e16, e20], cond_set hC2.out (fun _ _ h => h) (CV.of rfl rfl), hK0, hb0, hz0, hR0, hQ0⟩
                        · intro listed a w' hs hI h0 hd K2 hK
                          obtain ⟨xs, rfl, hC, hK0, hb0, hz0, hR0, hQ0⟩ := hI
                          have e16 : xs 16 = .bool false := (hC 16 (hd ⟨16, .guard⟩ (by simp) rfl)) _ rfl
                          have e19 : xs 19 = undef := (hC 19 (hd ⟨19, .data⟩ (by simp) rfl)) _ rfl
                          have e21 : xs 21 = undef := (hC 21 (hd ⟨21, .data⟩ (by simp) rfl)) _ rfl
                          have hK2 := Lib.hid hK
                          have hC2 := Lib.hid hC
                          clear hd hK hC h0
                          go_simp
                          exact hK2.out _ _ ⟨updV xs 22 (undef), by simp [updV, e16, e19, e21], cond_set hC2.out (fun _ _ h => h) (CV.of rfl rfl), hK0, hb0, hz0, hR0, hQ0⟩
                        · intro listed a w' hs hI h0 hd K2 hK
                          obtain ⟨xs, rfl, hC, hK0, hb0, hz0, hR0, hQ0⟩ := hI
                          have e16 : xs 16 = .bool false := (hC 16 (hd ⟨16, .guard⟩ (by simp) rfl)) _ rfl
                          have e22 : xs 22 = undef := (hC 22 (hd ⟨22, .data⟩ (by simp) rfl)) _ rfl
                          have hK2 := Lib.hid hK
                          have hC2 := Lib.hid hC
                          clear hd hK hC h0
                          go_simp
                          exact hK2.out _ _ ⟨updV xs 23 (undef), by simp [updV, e16, e22], cond_set hC2.out (fun _ _ h => h) (CV.of rfl rfl), hK0, hb0, hz0, hR0, hQ0⟩
                        · intro listed a w' hs hI h0 hd K2 hK
                          obtain ⟨xs, rfl, hC, hK0, hb0, hz0, hR0, hQ0⟩ := hI
                          have e16 : xs 16 = .bool false := (hC 16 (hd ⟨16, .guard⟩ (by simp) rfl)) _ rfl
                          have e23 : xs 23 = undef := (hC 23 (hd ⟨23, .data⟩ (by simp) rfl)) _ rfl
                          have hK2 := Lib.hid hK
                          have hC2 := Lib.hid hC
                          clear hd hK hC h0
                          go_simp
                          exact hK2.out _ _ ⟨updV xs 24 (undef), by simp [updV, e16, e23], cond_set hC2.out (fun _ _ h => h) (CV.of rfl rfl), hK0, hb0, hz0, hR0, hQ0⟩
                        · intro listed a w' hs hI h0 hd K2 hK
                          obtain ⟨xs, rfl, hC, hK0, hb0, hz0, hR0, hQ0⟩ := hI
                          have e16 : xs 16 = .bool false := (hC 16 (hd ⟨16, .guard⟩ (by simp) rfl)) _ rfl
                          have e18 : xs 18 = undef := (hC 18 (hd ⟨18, .data⟩ (by simp) rfl)) _ rfl
                          have e24 : xs 24 = undef := (hC 24 (hd ⟨24, .data⟩ (by simp) rfl)) _ rfl
                          have hK2 := Lib.hid hK
                          have hC2 := Lib.hid hC
                          clear hd hK hC h0
                          go_simp
                          exact hK2.out _ _ ⟨updV xs 25 (undef), by simp [updV, e16, e18, e24], cond_set hC2.out (fun _ _ h => h) (CV.of rfl rfl), hK0, hb0, hz0, hR0, hQ0⟩
                        · intro listed a w' hs hI h0 hd K2 hK
                          obtain ⟨xs, rfl, hC, hK0, hb0, hz0, hR0, hQ0⟩ := hI
                          have e13 : xs 13 = .bool false := (hC 13 (hd ⟨13, .guard⟩ (by simp) rfl)) _ rfl
                          have e16 : xs 16 = .bool false := (hC 16 (hd ⟨16, .data⟩ (by simp) rfl)) _ rfl
                          have e25 : xs 25 = undef := (hC 25 (hd ⟨25, .data⟩ (by simp) rfl)) _ rfl
                          have hK2 := Lib.hid hK
                          have hC2 := Lib.hid hC
                          clear hd hK hC h0
                          go_simp
                          exact hK2.out _ _ ⟨updV xs 26 (.bool false), by simp [updV, e13, e16, e25], cond_set hC2.out (fun _ _ h => h) (CV.of rfl rfl), hK0, hb0, hz0, hR0, hQ0⟩
                        · intro listed a w' hs hI h0 hd K2 hK
                          obtain ⟨xs, rfl, hC, hK0, hb0, hz0, hR0, hQ0⟩ := hI
                          have e13 : xs 13 = .bool false := (hC 13 (hd ⟨13, .guard⟩ (by simp) rfl)) _ rfl
                          have e26 : xs 26 = .bool false := (hC 26 (hd ⟨26, .data⟩ (by simp) rfl)) _ rfl
                          have hK2 := Lib.hid hK
                          have hC2 := Lib.hid hC
                          clear hd hK hC h0
                          go_simp
                          exact hK2.out _ _ ⟨updV xs 27 (.bool false), by simp [updV, e13, e26], cond_set hC2.out (fun _ _ h => h) (CV.of rfl rfl), hK0, hb0, hz0, hR0, hQ0⟩
                        · intro listed a w' hs hI h0 hd K2 hK
                          obtain ⟨xs, rfl, hC, hK0, hb0, hz0, hR0, hQ0⟩ := hI
                          have e27 : xs 27 = .bool false := (hC 27 (hd ⟨27, .guard⟩ (by simp) rfl)) _ rfl
                          have hK2 := Lib.hid hK
                          have hC2 := Lib.hid hC
                          clear hd hK hC h0
                          go_simp
                          exact hK2.out _ _ ⟨updV xs 28 (undef), by simp [updV, e27], cond_set hC2.out (fun _ _ h => h) (CV.of rfl rfl), hK0, hb0, hz0, hR0, hQ0⟩
                        · intro listed a w' hs hI h0 hd K2 hK
                          obtain ⟨xs, rfl, hC, hK0, hb0, hz0, hR0, hQ0⟩ := hI
                          have e27 : xs 27 = .bool false := (hC 27 (hd ⟨27, .guard⟩ (by simp) rfl)) _ rfl
                          have e28 : xs 28 = undef := (hC 28 (hd ⟨28, .data⟩ (by simp) rfl)) _ rfl
                          have hK2 := Lib.hid hK
                          have hC2 := Lib.hid hC
                          clear hd hK hC h0
                          go_simp
                          exact hK2.out _ _ ⟨updV xs 29 (undef), by simp [updV, e27, e28], cond_set hC2.out (fun _ _ h => h) (CV.of rfl rfl), hK0, hb0, hz0, hR0, hQ0⟩
                        · intro listed a w' hs hI h0 hd K2 hK
                          obtain ⟨xs, rfl, hC, hK0, hb0, hz0, hR0, hQ0⟩ := hI
                          have e27 : xs 27 = .bool false := (hC 27 (hd ⟨27, .guard⟩ (by simp) rfl)) _ rfl
                          have hK2 := Lib.hid hK
                          have hC2 := Lib.hid hC
                          clear hd hK hC h0
                          go_simp
                          exact hK2.out _ _ ⟨updV xs 30 (undef), by simp [updV, e27], cond_set hC2.out (fun _ _ h => h) (CV.of rfl rfl), hK0, hb0, hz0, hR0, hQ0⟩
                        · intro listed a w' hs hI h0 hd K2 hK
                          obtain ⟨xs, rfl, hC, hK0, hb0, hz0, hR0, hQ0⟩ := hI
                          have e27 : xs 27 = .bool false := (hC 27 (hd ⟨27, .guard⟩ (by simp) rfl)) _ rfl
                          have hK2 := Lib.hid hK
                          have hC2 := Lib.hid hC
                          clear hd hK hC h0
                          go_simp
                          exact hK2.out _ _ ⟨updV xs 31 (undef), by simp [updV, e27], cond_set hC2.out (fun _ _ h => h) (CV.of rfl rfl), hK0, hb0, hz0, hR0, hQ0⟩
                        · intro listed a w' hs hI h0 hd K2 hK
                          obtain ⟨xs, rfl, hC, hK0, hb0, hz0, hR0, hQ0⟩ := hI
                          have e27 : xs 27 = .bool false := (hC 27 (hd ⟨27, .guard⟩ (by simp) rfl)) _ rfl
                          have e31 : xs 31 = undef := (hC 31 (hd ⟨31, .data⟩ (by simp) rfl)) _ rfl
                          have hK2 := Lib.hid hK
                          have hC2 := Lib.hid hC
                          clear hd hK hC h0
                          go_simp
                          exact hK2.out _ _ ⟨updV xs 32 (undef), by simp [updV, e27, e31], cond_set hC2.out (fun _ _ h => h) (CV.of rfl rfl), hK0, hb0, hz0, hR0, hQ0⟩
                        · intro listed a w' hs hI h0 hd K2 hK
                          obtain ⟨xs, rfl, hC, hK0, hb0, hz0, hR0, hQ0⟩ := hI
                          have e27 : xs 27 = .bool false := (hC 27 (hd ⟨27, .guard⟩ (by simp) rfl)) _ rfl
                          have e30 : xs 30 = undef := (hC 30 (hd ⟨30, .data⟩ (by simp) rfl)) _ rfl
                          have e32 : xs 32 = undef := (hC 32 (hd ⟨32, .data⟩ (by simp) rfl)) _ rfl
                          have hK2 := Lib.hid hK
                          have hC2 := Lib.hid hC
                          clear hd hK hC h0
                          go_simp
                          exact hK2.out _ _ ⟨updV xs 33 (undef), by simp [updV, e27, e30, e32], cond_set hC2.out (fun _ _ h => h) (CV.of rfl rfl), hK0, hb0, hz0, hR0, hQ0⟩
                        · intro listed a w' hs hI h0 hd K2 hK
                          obtain ⟨xs, rfl, hC, hK0, hb0, hz0, hR0, hQ0⟩ := hI
                          have e27 : xs 27 = .bool false := (hC 27 (hd ⟨27, .guard⟩ (by simp) rfl)) _ rfl
                          have e33 : xs 33 = undef := (hC 33 (hd ⟨33, .data⟩ (by simp) rfl)) _ rfl
                          have hK2 := Lib.hid hK
                          have hC2 := Lib.hid hC
                          clear hd hK hC h0
                          go_simp
                          exact hK2.out _ _ ⟨updV xs 34 (undef), by simp [updV, e27, e33], cond_set hC2.out (fun _ _ h => h) (CV.of rfl rfl), hK0, hb0, hz0, hR0, hQ0⟩
                        · intro listed a w' hs hI h0 hd K2 hK
                          obtain ⟨xs, rfl, hC, hK0, hb0, hz0, hR0, hQ0⟩ := hI
                          have e27 : xs 27 = .bool false := (hC 27 (hd ⟨27, .guard⟩ (by simp) rfl)) _ rfl
                          have e34 : xs 34 = undef := (hC 34 (hd ⟨34, .data⟩ (by simp) rfl)) _ rfl
                          have hK2 := Lib.hid hK
                          have hC2 := Lib.hid hC
                          clear hd hK hC h0
                          go_simp
                          exact hK2.out _ _ ⟨updV xs 35 (undef), by simp [updV, e27, e34], cond_set hC2.out (fun _ _ h => h) (CV.of rfl rfl), hK0, hb0, hz0, hR0, hQ0⟩
                        · intro listed a w' hs hI h0 hd K2 hK
                          obtain ⟨xs, rfl, hC, hK0, hb0, hz0, hR0, hQ0⟩ := hI
                          have e27 : xs 27 = .bool false := (hC 27 (hd ⟨27, .guard⟩ (by simp) rfl)) _ rfl
                          have e29 : xs 29 = undef := (hC 29 (hd ⟨29, .data⟩ (by simp) rfl)) _ rfl
                          have e35 : xs 35 = undef := (hC 35 (hd ⟨35, .data⟩ (by simp) rfl)) _ rfl
                          have hK2 := Lib.hid hK
                          have hC2 := Lib.hid hC
                          clear hd hK hC h0
                          go_simp
                          exact hK2.out _ _ ⟨updV xs 36 (undef), by simp [updV, e27, e29, e35], cond_set hC2.out (fun _ _ h => h) (CV.of rfl rfl), hK0, hb0, hz0, hR0, hQ0⟩
                        · intro listed a w' hs hI h0 hd K2 hK
                          obtain ⟨xs, rfl, hC, hK0, hb0, hz0, hR0, hQ0⟩ := hI
                          have e13 : xs 13 = .bool false := (hC 13 (hd ⟨13, .guard⟩ (by simp) rfl)) _ rfl
                          have e27 : xs 27 = .bool false := (hC 27 (hd ⟨27, .data⟩ (by simp) rfl)) _ rfl
                          have e36 : xs 36 = undef := (hC 36 (hd ⟨36, .data⟩ (by simp) rfl)) _ rfl
                          have hK2 := Lib.hid hK
                          have hC2 := Lib.hid hC
                          clear hd hK hC h0
                          go_simp
                          exact hK2.out _ _ ⟨updV xs 37 (.bool false), by simp [updV, e13, e27, e36], cond_set hC2.out (fun _ _ h => h) (CV.of rfl rfl), hK0, hb0, hz0, hR0, hQ0⟩
                        · intro listed a w' hs hI h0 hd K2 hK
                          obtain ⟨xs, rfl, hC, hK0, hb0, hz0, hR0, hQ0⟩ := hI
                          have e13 : xs 13 = .bool false := (hC 13 (hd ⟨13, .data⟩ (by simp) rfl)) _ rfl
                          have e37 : xs 37 = .bool false := (hC 37 (hd ⟨37, .data⟩ (by simp) rfl)) _ rfl
                          have hK2 := Lib.hid hK
                          have hC2 := Lib.hid hC
                          clear hd hK hC h0
                          go_simp
                          exact hK2.out _ _ ⟨updV xs 38 (.bool false), by simp [updV, e13, e37], cond_set hC2.out (fun _ _ h => h) (CV.of rfl rfl), hK0, hb0, hz0, hR0, hQ0⟩
                      case he =>
                        intro listed a w' hs hI hr
                        obtain ⟨xs, rfl, hC, hK0, hb0, hz0, hR0, hQ0⟩ := hI
                        have eL : xs 38 = .bool false := (hC 38 (all_listed hs hr ⟨rfl, rfl, rfl, rfl, rfl, rfl, rfl, rfl, rfl, rfl, rfl, rfl, rfl, rfl, rfl, rfl, rfl, rfl, rfl, rfl, rfl, rfl, rfl, rfl, rfl, rfl, rfl, rfl, rfl, rfl, rfl, rfl, rfl, rfl, rfl, rfl, rfl, rfl, rfl, trivial⟩ 38 (by simp))) _ rfl
                        clear hC hs hr
                        go_wp2
                        go_meet
                        case rel => exact ⟨by first | exact eL | rfl, hK0, hb0, hz0, hR0, hQ0⟩
                      --R28a end
                    · obtain ⟨yp, hyp⟩ := at_of_lt (l := ws) (k := q - 1) (by rw [RN.len hQ6]; omega)
                      have hyn := hyz.out yp hyp (by omega)
                      have hqp : (0 : Int) < (q : Int) := by omega
                      have hqp3 : 0 < q := by omega
                      have hw1 : IntKind.i64.wrap ((q : Int) - 1) = (q : Int) - 1 := IntWalk.i64_in _ (by omega)
                      have hw2 : 0 ≤ (q : Int) - 1 := by omega
                      have hw3 : ((q : Int) - 1).toNat = q - 1 := by omega
                      have hw4 : (q : Int) - 1 < n := by omega
                      have hw8 : q - 1 < n := by omega
                      have hnn : 0 < n := by omega
                      clear hyz
                      by_cases hg : zn = yp.num ∧ zd = yp.den
                      · have hGB : fEq zn zd yp.num yp.den = true := decide_eq_true hg
                        have hLs : Op.bytesLess zw.toList yp.who.toList = false := by
                          rw [← Bool.not_eq_true, bl_ltS]
                          exact hyn hg
                        clear hyn hg
                        --R28c
                        refine wp_region_inv (by kernel_rfl) (fun listed a w' => ∃ xs : Nat → Value, a = { tmps := #[Value.slice a0 len0 cap0, undef, u2, Value.pointer (some { block := w.heap.size, off := 0 }), Value.pointer (some { block := b4, off := 0 }), Value.slice A n c, Value.slice (some { block := bP, off := oP }) m pc, Value.int IntKind.i64 0, Value.int IntKind.i64 ↑N, undef, u10, Value.int IntKind.i64 ↑jj, Value.pointer (some { block := b5, off := 0 }), Value.slice (some { block := bW, off := oW }) n wc, Value.int IntKind.i64 0, Value.int IntKind.i64 ↑q, Value.pointer (some { block := b16, off := 0 }), Value.slice a0 len0 cap0, Value.agg #[Value.slice a0 len0 cap0, Value.int IntKind.i64 0], Value.pointer (some { block := w.heap.size, off := 0 }), Value.pointer (some { block := w.heap.size, off := 0 }), Value.agg #[Value.string key, Value.int IntKind.i64 metres, Value.int IntKind.i64 stroke, Value.int IntKind.i64 course, Value.int IntKind.i64 legs, Value.int IntKind.i64 sex, Value.int IntKind.i64 young, Value.int IntKind.i64 old], Value.pointer (some { block := w.heap.size, off := 0 }), Value.agg #[Value.string key, Value.int IntKind.i64 metres, Value.int IntKind.i64 stroke, Value.int IntKind.i64 course, Value.int IntKind.i64 legs, Value.int IntKind.i64 sex, Value.int IntKind.i64 young, Value.int IntKind.i64 old], Value.slice A n c, Value.slice A n c, Value.int IntKind.i64 ↑n, Value.bool false, undef, Value.tuple #[Value.slice (some { block := bP, off := oP }) m pc, Value.int IntKind.i64 0], Value.agg #[Value.string key, Value.int IntKind.i64 metres, Value.int IntKind.i64 stroke, Value.int IntKind.i64 course, Value.int IntKind.i64 legs, Value.int IntKind.i64 sex, Value.int IntKind.i64 young, Value.int IntKind.i64 old], Value.slice A n c, Value.tuple #[Value.slice (some { block := bP, off := oP }) m pc, Value.int IntKind.i64 0], Value.slice (some { block := bP, off := oP }) m pc, Value.int IntKind.i64 0, Value.int IntKind.i64 0, Value.bool false, Value.bool false, Value.slice (some { block := bP, off := oP }) m pc, Value.int IntKind.i64 ↑m, Value.bool false, Value.bool false, Value.bool false, Value.slice (some { block := bP, off := oP }) m pc, Value.pointer (some { block := bP, off := oP }), Value.pointer (some { block := bP, off := oP }), Value.int IntKind.i64 0, Value.bool false, Value.bool false, Value.slice A n c, Value.int IntKind.i64 ↑n, Value.int IntKind.i64 ↑n, Value.bool false, u53, u54, u55, u56, u57, u58, u59, u60, u61, u62, u63, u64, u65, Value.slice (some { block := bP, off := oP }) m pc, Value.slice (some { block := bP, off := oP }) m pc, Value.int IntKind.i64 ↑m, Value.int IntKind.i64 (↑m - 1), Value.pointer (some { block := bP, off := oP + (m - 1) * 3 }), Value.pointer (some { block := bP, off := oP + (m - 1) * 3 + 1 }), Value.int IntKind.i64 ↑N, Value.int IntKind.i64 ↑N, Value.bool false, Value.slice (some { block := bP, off := oP }) m pc, Value.int IntKind.i64 ↑m, Value.int IntKind.i64 ↑jj, u78, u79, u80, u81, u82, u83, u84, u85, u86, u87, u88, u89, u90, u91, u92, u93, u94, u95, u96, u97, u98, u99, u100, u101, u102, u103, u104, u105, u106, u107, u108, u109, u110, u111, u112, u113, u114, u115, u116, u117, Value.bool false, Value.tuple #[Value.slice (some { block := bW, off := oW }) n wc, Value.int IntKind.i64 0], Value.agg #[Value.string key, Value.int IntKind.i64 metres, Value.int IntKind.i64 stroke, Value.int IntKind.i64 course, Value.int IntKind.i64 legs, Value.int IntKind.i64 sex, Value.int IntKind.i64 young, Value.int IntKind.i64 old], Value.slice A n c, Value.pointer (some { block := w.heap.size, off := 0 }), Value.pointer (some { block := b5, off := 0 }), Value.int IntKind.i64 xf, Value.pointer (some { block := b5, off := 1 }), Value.int IntKind.i64 xt, Value.int IntKind.i64 (xt - 1), Value.int IntKind.i64 tt, Value.tuple #[Value.slice (some { block := bW, off := oW }) n wc, Value.int IntKind.i64 0], Value.slice (some { block := bW, off := oW }) n wc, Value.int IntKind.i64 0, Value.int IntKind.i64 0, Value.bool false, Value.bool false, Value.slice (some { block := bW, off := oW }) n wc, Value.int IntKind.i64 ↑n, Value.slice A n c, Value.int IntKind.i64 ↑n, Value.bool false, Value.bool false, Value.slice (some { block := bW, off := oW }) n wc, Value.int IntKind.i64 ↑n, Value.int IntKind.i64 ↑q, Value.bool true, Value.int IntKind.i64 ↑q, Value.pointer (some { block := bW, off := oW + q * 3 }), Value.agg #[Value.string zw, Value.int IntKind.i64 zn, Value.int IntKind.i64 zd], xs 0, xs 1, xs 2, xs 3, xs 4, xs 5, xs 6, xs 7, xs 8, xs 9, xs 10, xs 11, xs 12, xs 13, xs 14, xs 15, xs 16, xs 17, xs 18, xs 19, xs 20, xs 21, xs 22, xs 23, xs 24, xs 25, xs 26, xs 27, xs 28, xs 29, xs 30, xs 31, xs 32, xs 33, xs 34, xs 35, xs 36, xs 37, xs 38, u187, u188, undef], defers := [] } ∧ (∀ j, listed.getD j false = true → CV [some (.pointer (some ⟨b16, 1, none⟩)), some (.agg #[.int .i64 zn, .int .i64 zd]), some (.slice (some ⟨bW, oW, none⟩) n wc), some (.pointer (some ⟨bW, oW, none⟩)), some (.pointer (some ⟨bW, oW + 1, none⟩)), some (.agg #[.int .i64 w0.num, .int .i64 w0.den]), some (.bool (fEq zn zd w0.num w0.den)), some (.pointer (some ⟨b5, 2, none⟩)), some (.slice xA xn xc), some (.pointer (some ⟨b16, 0, none⟩)), some (.string zw), some (.bool (fEq zn zd w0.num w0.den)), some (.bool false), some (.bool false), some (.int .i64 (q : Int)), some (.bool true), some (.bool true), some (.pointer (some ⟨b16, 1, none⟩)), some (.agg #[.int .i64 zn, .int .i64 zd]), some (.slice (some ⟨bW, oW, none⟩) n wc), some (.int .i64 (q : Int)), some (.int .i64 ((q : Int) - 1)), some (.pointer (some ⟨bW, oW + (q - 1) * 3, none⟩)), some (.pointer (some ⟨bW, oW + (q - 1) * 3 + 1, none⟩)), some (.agg #[.int .i64 yp.num, .int .i64 yp.den]), some (.bool true), some (.bool true), some (.bool true), some (.pointer (some ⟨b16, 0, none⟩)), some (.string zw), some (.slice (some ⟨bW, oW, none⟩) n wc), some (.int .i64 (q : Int)), some (.int .i64 ((q : Int) - 1)), some (.pointer (some ⟨bW, oW + (q - 1) * 3, none⟩)), some (.pointer (some ⟨bW, oW + (q - 1) * 3, none⟩)), some (.string yp.who), some (.bool false), some (.bool false), some (.bool false)] j w' (xs j)) ∧ KK2 (kk + 1) w' ∧ w'.heap[b5]? = some (.cells #[.int .i64 xf, .int .i64 xt, .slice xA xn xc] 86 (0, 0)) ∧ w'.heap[b16]? = some (.cells #[.string zw, .int .i64 zn, .int .i64 zd] 67 (0, 0)) ∧ RS 9 w' xA xn xw ∧ RWh w' (some ⟨bW, oW, none⟩) n ws) ?h0 (AllOps.of ?hs) ?he
                        case h0 => exact ⟨fun j => match j with | 0 => u148 | 1 => u149 | 2 => u150 | 3 => u151 | 4 => u152 | 5 => u153 | 6 => u154 | 7 => u155 | 8 => u156 | 9 => u157 | 10 => u158 | 11 => u159 | 12 => u160 | 13 => u161 | 14 => u162 | 15 => u163 | 16 => u164 | 17 => u165 | 18 => u166 | 19 => u167 | 20 => u168 | 21 => u169 | 22 => u170 | 23 => u171 | 24 => u172 | 25 => u173 | 26 => u174 | 27 => u175 | 28 => u176 | 29 => u177 | 30 => u178 | 31 => u179 | 32 => u180 | 33 => u181 | 34 => u182 | 35 => u183 | 36 => u184 | 37 => u185 | 38 => u186 | _ => undef, rfl, (fun j hj => by rw [rep_false] at hj; cases hj), kb _ _ _ K6 (below_drewN (Below.refl _ _) 1), hx6, hz6, hW6, hQ6⟩
                        case hs =>
                          refine ⟨?_, ?_, ?_, ?_, ?_, ?_, ?_, ?_, ?_, ?_, ?_, ?_, ?_, ?_, ?_, ?_, ?_, ?_, ?_, ?_, ?_, ?_, ?_, ?_, ?_, ?_, ?_, ?_, ?_, ?_, ?_, ?_, ?_, ?_, ?_, ?_, ?_, ?_, ?_, trivial⟩
                          · intro listed a w' hs hI h0 hd K2 hK
                            obtain ⟨xs, rfl, hC, hK0, hb0, hz0, hR0, hQ0⟩ := hI
                            have hK2 := Lib.hid hK
                            have hC2 := Lib.hid hC
                            clear hd hK hC h0
                            go_simp
                            exact hK2.out _ _ ⟨updV xs 0 (.pointer (some ⟨b16, 1, none⟩)), by simp [updV], cond_set hC2.out (fun _ _ h => h) (CV.of rfl rfl), hK0, hb0, hz0, hR0, hQ0⟩
                          · intro listed a w' hs hI h0 hd K2 hK
                            obtain ⟨xs, rfl, hC, hK0, hb0, hz0, hR0, hQ0⟩ := hI
                            have e0 : xs 0 = .pointer (some ⟨b16, 1, none⟩) := (hC 0 (hd ⟨0, .data⟩ (by simp) rfl)) _ rfl
                            have hK2 := Lib.hid hK
                            have hC2 := Lib.hid hC
                            have y1 := (blk_facts hz0).1 1
                            have y2 := (blk_facts hz0).1 2
                            clear hd hK hC h0
                            go_simp
                            exact hK2.out _ _ ⟨updV xs 1 (.agg #[.int .i64 zn, .int .i64 zd]), by simp [updV, e0], cond_set hC2.out (fun _ _ h => h) (CV.of rfl rfl), hK0, hb0, hz0, hR0, hQ0⟩
                          · intro listed a w' hs hI h0 hd K2 hK
                            obtain ⟨xs, rfl, hC, hK0, hb0, hz0, hR0, hQ0⟩ := hI
                            have hK2 := Lib.hid hK
                            have hC2 := Lib.hid hC
                            clear hd hK hC h0
                            go_simp
                            exact hK2.out _ _ ⟨updV xs 2 (.slice (some ⟨bW, oW, none⟩) n wc), by simp [updV], cond_set hC2.out (fun _ _ h => h) (CV.of rfl rfl), hK0, hb0, hz0, hR0, hQ0⟩
                          · intro listed a w' hs hI h0 hd K2 hK
                            obtain ⟨xs, rfl, hC, hK0, hb0, hz0, hR0, hQ0⟩ := hI
                            have e2 : xs 2 = .slice (some ⟨bW, oW, none⟩) n wc := (hC 2 (hd ⟨2, .data⟩ (by simp) rfl)) _ rfl
                            have hK2 := Lib.hid hK
                            have hC2 := Lib.hid hC
                            have hn9 : 0 < n := by omega
                            clear hd hK hC h0
                            go_simp
                            exact hK2.out _ _ ⟨updV xs 3 (.pointer (some ⟨bW, oW, none⟩)), by simp [updV, e2], cond_set hC2.out (fun _ _ h => h) (CV.of rfl rfl), hK0, hb0, hz0, hR0, hQ0⟩
                          · intro listed a w' hs hI h0 hd K2 hK
                            obtain ⟨xs, rfl, hC, hK0, hb0, hz0, hR0, hQ0⟩ := hI
                            have e3 : xs 3 = .pointer (some ⟨bW, oW, none⟩) := (hC 3 (hd ⟨3, .data⟩ (by simp) rfl)) _ rfl
                            have hK2 := Lib.hid hK
                            have hC2 := Lib.hid hC
                            clear hd hK hC h0
                            go_simp
                            exact hK2.out _ _ ⟨updV xs 4 (.pointer (some ⟨bW, oW + 1, none⟩)), by simp [updV, e3], cond_set hC2.out (fun _ _ h => h) (CV.of rfl rfl), hK0, hb0, hz0, hR0, hQ0⟩
                          · intro listed a w' hs hI h0 hd K2 hK
                            obtain ⟨xs, rfl, hC, hK0, hb0, hz0, hR0, hQ0⟩ := hI
                            have e4 : xs 4 = .pointer (some ⟨bW, oW + 1, none⟩) := (hC 4 (hd ⟨4, .data⟩ (by simp) rfl)) _ rfl
                            have hK2 := Lib.hid hK
                            have hC2 := Lib.hid hC
                            obtain ⟨_, y1, y2⟩ := hQ0.cells hw0
                            rw [Nat.zero_mul, Nat.add_zero] at y1 y2
                            clear hd hK hC h0
                            go_simp
                            exact hK2.out _ _ ⟨updV xs 5 (.agg #[.int .i64 w0.num, .int .i64 w0.den]), by simp [updV, e4], cond_set hC2.out (fun _ _ h => h) (CV.of rfl rfl), hK0, hb0, hz0, hR0, hQ0⟩
                          · intro listed a w' hs hI h0 hd K2 hK
                            obtain ⟨xs, rfl, hC, hK0, hb0, hz0, hR0, hQ0⟩ := hI
                            have e1 : xs 1 = .agg #[.int .i64 zn, .int .i64 zd] := (hC 1 (hd ⟨1, .data⟩ (by simp) rfl)) _ rfl
                            have e5 : xs 5 = .agg #[.int .i64 w0.num, .int .i64 w0.den] := (hC 5 (hd ⟨5, .data⟩ (by simp) rfl)) _ rfl
                            have hK2 := Lib.hid hK
                            have hC2 := Lib.hid hC
                            clear hd hK hC h0
                            go_simp
                            exact hK2.out _ _ ⟨updV xs 6 (.bool (fEq zn zd w0.num w0.den)), by simp [updV, e1, e5], cond_set hC2.out (fun _ _ h => h) (CV.of rfl rfl), hK0, hb0, hz0, hR0, hQ0⟩
                          · intro listed a w' hs hI h0 hd K2 hK
                            obtain ⟨xs, rfl, hC, hK0, hb0, hz0, hR0, hQ0⟩ := hI
                            have hK2 := Lib.hid hK
                            have hC2 := Lib.hid hC
                            clear hd hK hC h0
                            go_simp
                            exact hK2.out _ _ ⟨updV xs 7 (.pointer (some ⟨b5, 2, none⟩)), by simp [updV], cond_set hC2.out (fun _ _ h => h) (CV.of rfl rfl), hK0, hb0, hz0, hR0, hQ0⟩
                          · intro listed a w' hs hI h0 hd K2 hK
                            obtain ⟨xs, rfl, hC, hK0, hb0, hz0, hR0, hQ0⟩ := hI
                            have e7 : xs 7 = .pointer (some ⟨b5, 2, none⟩) := (hC 7 (hd ⟨7, .data⟩ (by simp) rfl)) _ rfl
                            have hK2 := Lib.hid hK
                            have hC2 := Lib.hid hC
                            have y2 := (blk_facts hb0).1 2
                            clear hd hK hC h0
                            go_simp
                            exact hK2.out _ _ ⟨updV xs 8 (.slice xA xn xc), by simp [updV, e7], cond_set hC2.out (fun _ _ h => h) (CV.of rfl rfl), hK0, hb0, hz0, hR0, hQ0⟩
                          · intro listed a w' hs hI h0 hd K2 hK
                            obtain ⟨xs, rfl, hC, hK0, hb0, hz0, hR0, hQ0⟩ := hI
                            have hK2 := Lib.hid hK
                            have hC2 := Lib.hid hC
                            clear hd hK hC h0
                            go_simp
                            exact hK2.out _ _ ⟨updV xs 9 (.pointer (some ⟨b16, 0, none⟩)), by simp [updV], cond_set hC2.out (fun _ _ h => h) (CV.of rfl rfl), hK0, hb0, hz0, hR0, hQ0⟩
                          · intro listed a w' hs hI h0 hd K2 hK
                            obtain ⟨xs, rfl, hC, hK0, hb0, hz0, hR0, hQ0⟩ := hI
                            have e9 : xs 9 = .pointer (some ⟨b16, 0, none⟩) := (hC 9 (hd ⟨9, .data⟩ (by simp) rfl)) _ rfl
                            have hK2 := Lib.hid hK
                            have hC2 := Lib.hid hC
                            have y0 := (blk_facts hz0).1 0
                            clear hd hK hC h0
                            go_simp
                            exact hK2.out _ _ ⟨updV xs 10 (.string zw), by simp [updV, e9], cond_set hC2.out (fun _ _ h => h) (CV.of rfl rfl), hK0, hb0, hz0, hR0, hQ0⟩
                          · intro listed a w' hs hI h0 hd K2 hK
                            obtain ⟨xs, rfl, hC, hK0, hb0, hz0, hR0, hQ0⟩ := hI
                            have e8 : xs 8 = .slice xA xn xc := (hC 8 (hd ⟨8, .data⟩ (by simp) rfl)) _ rfl
                            have e10 : xs 10 = .string zw := (hC 10 (hd ⟨10, .data⟩ (by simp) rfl)) _ rfl
                            have hK2 := Lib.hid hK
                            have hC2 := Lib.hid hC
                            clear hd hK hC h0
                            go_simp
                            refine (hCo.out _ _ _ _ _ _ hR0).mono ?_; rintro e w14 ⟨rfl, rfl⟩
                            rw [hcz1]
                            exact hK2.out _ _ ⟨updV xs 11 (.bool (fEq zn zd w0.num w0.den)), by simp [updV, e8, e10], cond_set hC2.out (fun _ _ h => h) (CV.of rfl rfl), hK0, hb0, hz0, hR0, hQ0⟩
                          · intro listed a w' hs hI h0 hd K2 hK
                            obtain ⟨xs, rfl, hC, hK0, hb0, hz0, hR0, hQ0⟩ := hI
                            have e6 : xs 6 = .bool (fEq zn zd w0.num w0.den) := (hC 6 (hd ⟨6, .data⟩ (by simp) rfl)) _ rfl
                            have e11 : xs 11 = .bool (fEq zn zd w0.num w0.den) := (hC 11 (hd ⟨11, .data⟩ (by simp) rfl)) _ rfl
                            have hK2 := Lib.hid hK
                            have hC2 := Lib.hid hC
                            clear hd hK hC h0
                            go_simp
                            exact hK2.out _ _ ⟨updV xs 12 (.bool false), by simp [updV, e6, e11], cond_set hC2.out (fun _ _ h => h) (CV.of rfl rfl), hK0, hb0, hz0, hR0, hQ0⟩
                          · intro listed a w' hs hI h0 hd K2 hK
                            obtain ⟨xs, rfl, hC, hK0, hb0, hz0, hR0, hQ0⟩ := hI
                            have e12 : xs 12 = .bool false := (hC 12 (hd ⟨12, .data⟩ (by simp) rfl)) _ rfl
                            have hK2 := Lib.hid hK
                            have hC2 := Lib.hid hC
                            clear hd hK hC h0
                            go_simp
                            exact hK2.out _ _ ⟨updV xs 13 (.bool false), by simp [updV, e12], cond_set hC2.out (fun _ _ h => h) (CV.of rfl rfl), hK0, hb0, hz0, hR0, hQ0⟩
                          · intro listed a w' hs hI h0 hd K2 hK
                            obtain ⟨xs, rfl, hC, hK0, hb0, hz0, hR0, hQ0⟩ := hI
                            have e13 : xs 13 = .bool false := (hC 13 (hd ⟨13, .guard⟩ (by simp) rfl)) _ rfl
                            have hK2 := Lib.hid hK
                            have hC2 := Lib.hid hC
                            clear hd hK hC h0
                            go_simp
                            exact hK2.out _ _ ⟨updV xs 14 (.int .i64 (q : Int)), by simp [updV, e13], cond_set hC2.out (fun _ _ h => h) (CV.of rfl rfl), hK0, hb0, hz0, hR0, hQ0⟩
                          · intro listed a w' hs hI h0 hd K2 hK
                            obtain ⟨xs, rfl, hC, hK0, hb0, hz0, hR0, hQ0⟩ := hI
                            have e13 : xs 13 = .bool false := (hC 13 (hd ⟨13, .guard⟩ (by simp) rfl)) _ rfl
                            have e14 : xs 14 = .int .i64 (q : Int) := (hC 14 (hd ⟨14, .data⟩ (by simp) rfl)) _ rfl
                            have hK2 := Lib.hid hK
                            have hC2 := Lib.hid hC
                            clear hd hK hC h0
                            go_simp
                            exact hK2.out _ _ ⟨updV xs 15 (.bool true), by simp [updV, e13, e14], cond_set hC2.out (fun _ _ h => h) (CV.of rfl rfl), hK0, hb0, hz0, hR0, hQ0⟩
                          · intro listed a w' hs hI h0 hd K2 hK
                            obtain ⟨xs, rfl, hC, hK0, hb0, hz0, hR0, hQ0⟩ := hI
                            have e13 : xs 13 = .bool false := (hC 13 (hd ⟨13, .guard⟩ (by simp) rfl)) _ rfl
                            have e15 : xs 15 = .bool true := (hC 15 (hd ⟨15, .data⟩ (by simp) rfl)) _ rfl
                            have hK2 := Lib.hid hK
                            have hC2 := Lib.hid hC
                            clear hd hK hC h0
                            go_simp
                            exact hK2.out _ _ ⟨updV xs 16 (.bool true), by simp [updV, e13, e15], cond_set hC2.out (fun _ _ h => h) (CV.of rfl rfl), hK0, hb0, hz0, hR0, hQ0⟩
                          · intro listed a w' hs hI h0 hd K2 hK
                            obtain ⟨xs, rfl, hC, hK0, hb0, hz0, hR0, hQ0⟩ := hI
                            have e16 : xs 16 = .bool true := (hC 16 (hd ⟨16, .guard⟩ (by simp) rfl)) _ rfl
                            have hK2 := Lib.hid hK
                            have hC2 := Lib.hid hC
                            clear hd hK hC h0
                            go_simp
                            exact hK2.out _ _ ⟨updV xs 17 (.pointer (some ⟨b16, 1, none⟩)), by simp [updV, e16], cond_set hC2.out (fun _ _ h => h) (CV.of rfl rfl), hK0, hb0, hz0, hR0, hQ0⟩
                          · intro listed a w' hs hI h0 hd K2 hK
                            obtain ⟨xs, rfl, hC, hK0, hb0, hz0, hR0, hQ0⟩ := hI
                            have e16 : xs 16 = .bool true := (hC 16 (hd ⟨16, .guard⟩ (by simp) rfl)) _ rfl
                            have e17 : xs 17 = .pointer (some ⟨b16, 1, none⟩) := (hC 17 (hd ⟨17, .data⟩ (by simp) rfl)) _ rfl
                            have hK2 := Lib.hid hK
                            have hC2 := Lib.hid hC
                            have y1 := (blk_facts hz0).1 1
                            have y2 := (blk_facts hz0).1 2
                            clear hd hK hC h0
                            go_simp
                            exact hK2.out _ _ ⟨updV xs 18 (.agg #[.int .i64 zn, .int .i64 zd]), by simp [updV, e16, e17], cond_set hC2.out (fun _ _ h => h) (CV.of rfl rfl), hK0, hb0, hz0, hR0, hQ0⟩
                          · intro listed a w' hs hI h0 hd K2 hK
                            obtain ⟨xs, rfl, hC, hK0, hb0, hz0, hR0, hQ0⟩ := hI
                            have e16 : xs 16 = .bool true := (hC 16 (hd ⟨16, .guard⟩ (by simp) rfl)) _ rfl
                            have hK2 := Lib.hid hK
                            have hC2 := Lib.hid hC
                            clear hd hK hC h0
                            go_simp
                            exact hK2.out _ _ ⟨updV xs 19 (.slice (some ⟨bW, oW, none⟩) n wc), by simp [updV, e16], cond_set hC2.out (fun _ _ h => h) (CV.of rfl rfl), hK0, hb0, hz0, hR0, hQ0⟩
                          · intro listed a w' hs hI h0 hd K2 hK
                            obtain ⟨xs, rfl, hC, hK0, hb0, hz0, hR0, hQ0⟩ := hI
                            have e16 : xs 16 = .bool true := (hC 16 (hd ⟨16, .guard⟩ (by simp) rfl)) _ rfl
                            have hK2 := Lib.hid hK
                            have hC2 := Lib.hid hC
                            clear hd hK hC h0
                            go_simp
                            exact hK2.out _ _ ⟨updV xs 20 (.int .i64 (q : Int)), by simp [updV, e16], cond_set hC2.out (fun _ _ h => h) (CV.of rfl rfl), hK0, hb0, hz0, hR0, hQ0⟩
                          · intro listed a w' hs hI h0 hd K2 hK
                            obtain ⟨xs, rfl, hC, hK0, hb0, hz0, hR0, hQ0⟩ := hI
                            have e16 : xs 16 = .bool true := (hC 16 (hd ⟨16, .guard⟩ (by simp) rfl)) _ rfl
                            have e20 : xs 20 = .int .i64 (q : Int) := (hC 20 (hd ⟨20, .data⟩ (by simp) rfl)) _ rfl
                            have hK2 := Lib.hid hK
                            have hC2 := Lib.hid hC
                            clear hd hK hC h0
                            go_simp
                            exact hK2.out _ _ ⟨updV xs 21 (.int .i64 ((q : Int) - 1)), by simp [updV, e16, e20], cond_set hC2.out (fun _ _ h => h) (CV.of rfl rfl), hK0, hb0, hz0, hR0, hQ0⟩
                          · intro listed a w' hs hI h0 hd K2 hK
                            obtain ⟨xs, rfl, hC, hK0, hb0, hz0, hR0, hQ0⟩ := hI
                            have e16 : xs 16 = .bool true := (hC 16 (hd ⟨16, .guard⟩ (by simp) rfl)) _ rfl
                            have e19 : xs 19 = .slice (some ⟨bW, oW, none⟩) n wc := (hC 19 (hd ⟨19, .data⟩ (by simp) rfl)) _ rfl
                            have e21 : xs 21 = .int .i64 ((q : Int) - 1) := (hC 21 (hd ⟨21, .data⟩ (by simp) rfl)) _ rfl
                            have hK2 := Lib.hid hK
                            have hC2 := Lib.hid hC
                            have hw7 : (1 : Int) ≤ (q : Int) := by omega
                            clear hd hK hC h0
                            go_simp
                            exact hK2.out _ _ ⟨updV xs 22 (.pointer (some ⟨bW, oW + (q - 1) * 3, none⟩)), by simp [updV, e16, e19, e21], cond_set hC2.out (fun _ _ h => h) (CV.of rfl rfl), hK0, hb0, hz0, hR0, hQ0⟩
                          · intro listed a w' hs hI h0 hd K2 hK
                            obtain ⟨xs, rfl, hC, hK0, hb0, hz0, hR0, hQ0⟩ := hI
                            have e16 : xs 16 = .bool true := (hC 16 (hd ⟨16, .guard⟩ (by simp) rfl)) _ rfl
                            have e22 : xs 22 = .pointer (some ⟨bW, oW + (q - 1) * 3, none⟩) := (hC 22 (hd ⟨22, .data⟩ (by simp) rfl)) _ rfl
                            have hK2 := Lib.hid hK
                            have hC2 := Lib.hid hC
                            clear hd hK hC h0
                            go_simp
                            exact hK2.out _ _ ⟨updV xs 23 (.pointer (some ⟨bW, oW + (q - 1) * 3 + 1, none⟩)), by simp [updV, e16, e22], cond_set hC2.out (fun _ _ h => h) (CV.of rfl rfl), hK0, hb0, hz0, hR0, hQ0⟩
                          · intro listed a w' hs hI h0 hd K2 hK
                            obtain ⟨xs, rfl, hC, hK0, hb0, hz0, hR0, hQ0⟩ := hI
                            have e16 : xs 16 = .bool true := (hC 16 (hd ⟨16, .guard⟩ (by simp) rfl)) _ rfl
                            have e23 : xs 23 = .pointer (some ⟨bW, oW + (q - 1) * 3 + 1, none⟩) := (hC 23 (hd ⟨23, .data⟩ (by simp) rfl)) _ rfl
                            have hK2 := Lib.hid hK
                            have hC2 := Lib.hid hC
                            obtain ⟨_, y1, y2⟩ := hQ0.cells hyp
                            clear hd hK hC h0
                            go_simp
                            exact hK2.out _ _ ⟨updV xs 24 (.agg #[.int .i64 yp.num, .int .i64 yp.den]), by simp [updV, e16, e23], cond_set hC2.out (fun _ _ h => h) (CV.of rfl rfl), hK0, hb0, hz0, hR0, hQ0⟩
                          · intro listed a w' hs hI h0 hd K2 hK
                            obtain ⟨xs, rfl, hC, hK0, hb0, hz0, hR0, hQ0⟩ := hI
                            have e16 : xs 16 = .bool true := (hC 16 (hd ⟨16, .guard⟩ (by simp) rfl)) _ rfl
                            have e18 : xs 18 = .agg #[.int .i64 zn, .int .i64 zd] := (hC 18 (hd ⟨18, .data⟩ (by simp) rfl)) _ rfl
                            have e24 : xs 24 = .agg #[.int .i64 yp.num, .int .i64 yp.den] := (hC 24 (hd ⟨24, .data⟩ (by simp) rfl)) _ rfl
                            have hK2 := Lib.hid hK
                            have hC2 := Lib.hid hC
                            clear hd hK hC h0
                            go_simp
                            exact hK2.out _ _ ⟨updV xs 25 (.bool true), by simp [updV, e16, e18, e24], cond_set hC2.out (fun _ _ h => h) (CV.of rfl rfl), hK0, hb0, hz0, hR0, hQ0⟩
                          · intro listed a w' hs hI h0 hd K2 hK
                            obtain ⟨xs, rfl, hC, hK0, hb0, hz0, hR0, hQ0⟩ := hI
                            have e13 : xs 13 = .bool false := (hC 13 (hd ⟨13, .guard⟩ (by simp) rfl)) _ rfl
                            have e16 : xs 16 = .bool true := (hC 16 (hd ⟨16, .data⟩ (by simp) rfl)) _ rfl
                            have e25 : xs 25 = .bool true := (hC 25 (hd ⟨25, .data⟩ (by simp) rfl)) _ rfl
                            have hK2 := Lib.hid hK
                            have hC2 := Lib.hid hC
                            clear hd hK hC h0
                            go_simp
                            exact hK2.out _ _ ⟨updV xs 26 (.bool true), by simp [updV, e13, e16, e25], cond_set hC2.out (fun _ _ h => h) (CV.of rfl rfl), hK0, hb0, hz0, hR0, hQ0⟩
                          · intro listed a w' hs hI h0 hd K2 hK
                            obtain ⟨xs, rfl, hC, hK0, hb0, hz0, hR0, hQ0⟩ := hI
                            have e13 : xs 13 = .bool false := (hC 13 (hd ⟨13, .guard⟩ (by simp) rfl)) _ rfl
                            have e26 : xs 26 = .bool true := (hC 26 (hd ⟨26, .data⟩ (by simp) rfl)) _ rfl
                            have hK2 := Lib.hid hK
                            have hC2 := Lib.hid hC
                            clear hd hK hC h0
                            go_simp
                            exact hK2.out _ _ ⟨updV xs 27 (.bool true), by simp [updV, e13, e26], cond_set hC2.out (fun _ _ h => h) (CV.of rfl rfl), hK0, hb0, hz0, hR0, hQ0⟩
                          · intro listed a w' hs hI h0 hd K2 hK
                            obtain ⟨xs, rfl, hC, hK0, hb0, hz0, hR0, hQ0⟩ := hI
                            have e27 : xs 27 = .bool true := (hC 27 (hd ⟨27, .guard⟩ (by simp) rfl)) _ rfl
                            have hK2 := Lib.hid hK
                            have hC2 := Lib.hid hC
                            clear hd hK hC h0
                            go_simp
                            exact hK2.out _ _ ⟨updV xs 28 (.pointer (some ⟨b16, 0, none⟩)), by simp [updV, e27], cond_set hC2.out (fun _ _ h => h) (CV.of rfl rfl), hK0, hb0, hz0, hR0, hQ0⟩
                          · intro listed a w' hs hI h0 hd K2 hK
                            obtain ⟨xs, rfl, hC, hK0, hb0, hz0, hR0, hQ0⟩ := hI
                            have e27 : xs 27 = .bool true := (hC 27 (hd ⟨27, .guard⟩ (by simp) rfl)) _ rfl
                            have e28 : xs 28 = .pointer (some ⟨b16, 0, none⟩) := (hC 28 (hd ⟨28, .data⟩ (by simp) rfl)) _ rfl
                            have hK2 := Lib.hid hK
                            have hC2 := Lib.hid hC
                            have y0 := (blk_facts hz0).1 0
                            clear hd hK hC h0
                            go_simp
                            exact hK2.out _ _ ⟨updV xs 29 (.string zw), by simp [updV, e27, e28], cond_set hC2.out (fun _ _ h => h) (CV.of rfl rfl), hK0, hb0, hz0, hR0, hQ0⟩
                          · intro listed a w' hs hI h0 hd K2 hK
                            obtain ⟨xs, rfl, hC, hK0, hb0, hz0, hR0, hQ0⟩ := hI
                            have e27 : xs 27 = .bool true := (hC 27 (hd ⟨27, .guard⟩ (by simp) rfl)) _ rfl
                            have hK2 := Lib.hid hK
                            have hC2 := Lib.hid hC
                            clear hd hK hC h0
                            go_simp
                            exact hK2.out _ _ ⟨updV xs 30 (.slice (some ⟨bW, oW, none⟩) n wc), by simp [updV, e27], cond_set hC2.out (fun _ _ h => h) (CV.of rfl rfl), hK0, hb0, hz0, hR0, hQ0⟩
                          · intro listed a w' hs hI h0 hd K2 hK
                            obtain ⟨xs, rfl, hC, hK0, hb0, hz0, hR0, hQ0⟩ := hI
                            have e27 : xs 27 = .bool true := (hC 27 (hd ⟨27, .guard⟩ (by simp) rfl)) _ rfl
                            have hK2 := Lib.hid hK
                            have hC2 := Lib.hid hC
                            clear hd hK hC h0
                            go_simp
                            exact hK2.out _ _ ⟨updV xs 31 (.int .i64 (q : Int)), by simp [updV, e27], cond_set hC2.out (fun _ _ h => h) (CV.of rfl rfl), hK0, hb0, hz0, hR0, hQ0⟩
                          · intro listed a w' hs hI h0 hd K2 hK
                            obtain ⟨xs, rfl, hC, hK0, hb0, hz0, hR0, hQ0⟩ := hI
                            have e27 : xs 27 = .bool true := (hC 27 (hd ⟨27, .guard⟩ (by simp) rfl)) _ rfl
                            have e31 : xs 31 = .int .i64 (q : Int) := (hC 31 (hd ⟨31, .data⟩ (by simp) rfl)) _ rfl
                            have hK2 := Lib.hid hK
                            have hC2 := Lib.hid hC
                            clear hd hK hC h0
                            go_simp
                            exact hK2.out _ _ ⟨updV xs 32 (.int .i64 ((q : Int) - 1)), by simp [updV, e27, e31], cond_set hC2.out (fun _ _ h => h) (CV.of rfl rfl), hK0, hb0, hz0, hR0, hQ0⟩
                          · intro listed a w' hs hI h0 hd K2 hK
                            obtain ⟨xs, rfl, hC, hK0, hb0, hz0, hR0, hQ0⟩ := hI
                            have e27 : xs 27 = .bool true := (hC 27 (hd ⟨27, .guard⟩ (by simp) rfl)) _ rfl
                            have e30 : xs 30 = .slice (some ⟨bW, oW, none⟩) n wc := (hC 30 (hd ⟨30, .data⟩ (by simp) rfl)) _ rfl
                            have e32 : xs 32 = .int .i64 ((q : Int) - 1) := (hC 32 (hd ⟨32, .data⟩ (by simp) rfl)) _ rfl
                            have hK2 := Lib.hid hK
                            have hC2 := Lib.hid hC
                            have hw7 : (1 : Int) ≤ (q : Int) := by omega
                            clear hd hK hC h0
                            go_simp
                            exact hK2.out _ _ ⟨updV xs 33 (.pointer (some ⟨bW, oW + (q - 1) * 3, none⟩)), by simp [updV, e27, e30, e32], cond_set hC2.out (fun _ _ h => h) (CV.of rfl rfl), hK0, hb0, hz0, hR0, hQ0⟩
                          · intro listed a w' hs hI h0 hd K2 hK
                            obtain ⟨xs, rfl, hC, hK0, hb0, hz0, hR0, hQ0⟩ := hI
                            have e27 : xs 27 = .bool true := (hC 27 (hd ⟨27, .guard⟩ (by simp) rfl)) _ rfl
                            have e33 : xs 33 = .pointer (some ⟨bW, oW + (q - 1) * 3, none⟩) := (hC 33 (hd ⟨33, .data⟩ (by simp) rfl)) _ rfl
                            have hK2 := Lib.hid hK
                            have hC2 := Lib.hid hC
                            clear hd hK hC h0
                            go_simp
                            exact hK2.out _ _ ⟨updV xs 34 (.pointer (some ⟨bW, oW + (q - 1) * 3, none⟩)), by simp [updV, e27, e33], cond_set hC2.out (fun _ _ h => h) (CV.of rfl rfl), hK0, hb0, hz0, hR0, hQ0⟩
                          · intro listed a w' hs hI h0 hd K2 hK
                            obtain ⟨xs, rfl, hC, hK0, hb0, hz0, hR0, hQ0⟩ := hI
                            have e27 : xs 27 = .bool true := (hC 27 (hd ⟨27, .guard⟩ (by simp) rfl)) _ rfl
                            have e34 : xs 34 = .pointer (some ⟨bW, oW + (q - 1) * 3, none⟩) := (hC 34 (hd ⟨34, .data⟩ (by simp) rfl)) _ rfl
                            have hK2 := Lib.hid hK
                            have hC2 := Lib.hid hC
                            obtain ⟨y0, _, _⟩ := hQ0.cells hyp
                            clear hd hK hC h0
                            go_simp
                            exact hK2.out _ _ ⟨updV xs 35 (.string yp.who), by simp [updV, e27, e34], cond_set hC2.out (fun _ _ h => h) (CV.of rfl rfl), hK0, hb0, hz0, hR0, hQ0⟩
                          · intro listed a w' hs hI h0 hd K2 hK
                            obtain ⟨xs, rfl, hC, hK0, hb0, hz0, hR0, hQ0⟩ := hI
                            have e27 : xs 27 = .bool true := (hC 27 (hd ⟨27, .guard⟩ (by simp) rfl)) _ rfl
                            have e29 : xs 29 = .string zw := (hC 29 (hd ⟨29, .data⟩ (by simp) rfl)) _ rfl
                            have e35 : xs 35 = .string yp.who := (hC 35 (hd ⟨35, .data⟩ (by simp) rfl)) _ rfl
                            have hK2 := Lib.hid hK
                            have hC2 := Lib.hid hC
                            clear hd hK hC h0
                            go_simp
                            exact hK2.out _ _ ⟨updV xs 36 (.bool false), by simp [updV, e27, e29, e35], cond_set hC2.out (fun _ _ h => h) (CV.of rfl rfl), hK0, hb0, hz0, hR0, hQ0⟩
                          · intro listed a w' hs hI h0 hd K2 hK
                            obtain ⟨xs, rfl, hC, hK0, hb0, hz0, hR0, hQ0⟩ := hI
                            have e13 : xs 13 = .bool false := (hC 13 (hd ⟨13, .guard⟩ (by simp) rfl)) _ rfl
                            have e27 : xs 27 = .bool true := (hC 27 (hd ⟨27, .data⟩ (by simp) rfl)) _ rfl
                            have e36 : xs 36 = .bool false := (hC 36 (hd ⟨36, .data⟩ (by simp) rfl)) _ rfl
                            have hK2 := Lib.hid hK
                            have hC2 := Lib.hid hC
                            clear hd hK hC h0
                            go_simp
                            exact hK2.out _ _ ⟨updV xs 37 (.bool false), by simp [updV, e13, e27, e36], cond_set hC2.out (fun _ _ h => h) (CV.of rfl rfl), hK0, hb0, hz0, hR0, hQ0⟩
                          · intro listed a w' hs hI h0 hd K2 hK
                            obtain ⟨xs, rfl, hC, hK0, hb0, hz0, hR0, hQ0⟩ := hI
                            have e13 : xs 13 = .bool false := (hC 13 (hd ⟨13, .data⟩ (by simp) rfl)) _ rfl
                            have e37 : xs 37 = .bool false := (hC 37 (hd ⟨37, .data⟩ (by simp) rfl)) _ rfl
                            have hK2 := Lib.hid hK
                            have hC2 := Lib.hid hC
                            clear hd hK hC h0
                            go_simp
                            exact hK2.out _ _ ⟨updV xs 38 (.bool false), by simp [updV, e13, e37], cond_set hC2.out (fun _ _ h => h) (CV.of rfl rfl), hK0, hb0, hz0, hR0, hQ0⟩
                        case he =>
                          intro listed a w' hs hI hr
                          obtain ⟨xs, rfl, hC, hK0, hb0, hz0, hR0, hQ0⟩ := hI
                          have eL : xs 38 = .bool false := (hC 38 (all_listed hs hr ⟨rfl, rfl, rfl, rfl, rfl, rfl, rfl, rfl, rfl, rfl, rfl, rfl, rfl, rfl, rfl, rfl, rfl, rfl, rfl, rfl, rfl, rfl, rfl, rfl, rfl, rfl, rfl, rfl, rfl, rfl, rfl, rfl, rfl, rfl, rfl, rfl, rfl, rfl, rfl, trivial⟩ 38 (by simp))) _ rfl
                          clear hC hs hr
                          go_wp2
                          go_meet
                          case rel => exact ⟨by first | exact eL | rfl, hK0, hb0, hz0, hR0, hQ0⟩
                        --R28c end
                      · have hGB : fEq zn zd yp.num yp.den = false := decide_eq_false hg
                        clear hyn hg
                        --R28b
                        refine wp_region_inv (by kernel_rfl) (fun listed a w' => ∃ xs : Nat → Value, a = { tmps := #[Value.slice a0 len0 cap0, undef, u2, Value.pointer (some { block := w.heap.size, off := 0 }), Value.pointer (some { block := b4, off := 0 }), Value.slice A n c, Value.slice (some { block := bP, off := oP }) m pc, Value.int IntKind.i64 0, Value.int IntKind.i64 ↑N, undef, u10, Value.int IntKind.i64 ↑jj, Value.pointer (some { block := b5, off := 0 }), Value.slice (some { block := bW, off := oW }) n wc, Value.int IntKind.i64 0, Value.int IntKind.i64 ↑q, Value.pointer (some { block := b16, off := 0 }), Value.slice a0 len0 cap0, Value.agg #[Value.slice a0 len0 cap0, Value.int IntKind.i64 0], Value.pointer (some { block := w.heap.size, off := 0 }), Value.pointer (some { block := w.heap.size, off := 0 }), Value.agg #[Value.string key, Value.int IntKind.i64 metres, Value.int IntKind.i64 stroke, Value.int IntKind.i64 course, Value.int IntKind.i64 legs, Value.int IntKind.i64 sex, Value.int IntKind.i64 young, Value.int IntKind.i64 old], Value.pointer (some { block := w.heap.size, off := 0 }), Value.agg #[Value.string key, Value.int IntKind.i64 metres, Value.int IntKind.i64 stroke, Value.int IntKind.i64 course, Value.int IntKind.i64 legs, Value.int IntKind.i64 sex, Value.int IntKind.i64 young, Value.int IntKind.i64 old], Value.slice A n c, Value.slice A n c, Value.int IntKind.i64 ↑n, Value.bool false, undef, Value.tuple #[Value.slice (some { block := bP, off := oP }) m pc, Value.int IntKind.i64 0], Value.agg #[Value.string key, Value.int IntKind.i64 metres, Value.int IntKind.i64 stroke, Value.int IntKind.i64 course, Value.int IntKind.i64 legs, Value.int IntKind.i64 sex, Value.int IntKind.i64 young, Value.int IntKind.i64 old], Value.slice A n c, Value.tuple #[Value.slice (some { block := bP, off := oP }) m pc, Value.int IntKind.i64 0], Value.slice (some { block := bP, off := oP }) m pc, Value.int IntKind.i64 0, Value.int IntKind.i64 0, Value.bool false, Value.bool false, Value.slice (some { block := bP, off := oP }) m pc, Value.int IntKind.i64 ↑m, Value.bool false, Value.bool false, Value.bool false, Value.slice (some { block := bP, off := oP }) m pc, Value.pointer (some { block := bP, off := oP }), Value.pointer (some { block := bP, off := oP }), Value.int IntKind.i64 0, Value.bool false, Value.bool false, Value.slice A n c, Value.int IntKind.i64 ↑n, Value.int IntKind.i64 ↑n, Value.bool false, u53, u54, u55, u56, u57, u58, u59, u60, u61, u62, u63, u64, u65, Value.slice (some { block := bP, off := oP }) m pc, Value.slice (some { block := bP, off := oP }) m pc, Value.int IntKind.i64 ↑m, Value.int IntKind.i64 (↑m - 1), Value.pointer (some { block := bP, off := oP + (m - 1) * 3 }), Value.pointer (some { block := bP, off := oP + (m - 1) * 3 + 1 }), Value.int IntKind.i64 ↑N, Value.int IntKind.i64 ↑N, Value.bool false, Value.slice (some { block := bP, off := oP }) m pc, Value.int IntKind.i64 ↑m, Value.int IntKind.i64 ↑jj, u78, u79, u80, u81, u82, u83, u84, u85, u86, u87, u88, u89, u90, u91, u92, u93, u94, u95, u96, u97, u98, u99, u100, u101, u102, u103, u104, u105, u106, u107, u108, u109, u110, u111, u112, u113, u114, u115, u116, u117, Value.bool false, Value.tuple #[Value.slice (some { block := bW, off := oW }) n wc, Value.int IntKind.i64 0], Value.agg #[Value.string key, Value.int IntKind.i64 metres, Value.int IntKind.i64 stroke, Value.int IntKind.i64 course, Value.int IntKind.i64 legs, Value.int IntKind.i64 sex, Value.int IntKind.i64 young, Value.int IntKind.i64 old], Value.slice A n c, Value.pointer (some { block := w.heap.size, off := 0 }), Value.pointer (some { block := b5, off := 0 }), Value.int IntKind.i64 xf, Value.pointer (some { block := b5, off := 1 }), Value.int IntKind.i64 xt, Value.int IntKind.i64 (xt - 1), Value.int IntKind.i64 tt, Value.tuple #[Value.slice (some { block := bW, off := oW }) n wc, Value.int IntKind.i64 0], Value.slice (some { block := bW, off := oW }) n wc, Value.int IntKind.i64 0, Value.int IntKind.i64 0, Value.bool false, Value.bool false, Value.slice (some { block := bW, off := oW }) n wc, Value.int IntKind.i64 ↑n, Value.slice A n c, Value.int IntKind.i64 ↑n, Value.bool false, Value.bool false, Value.slice (some { block := bW, off := oW }) n wc, Value.int IntKind.i64 ↑n, Value.int IntKind.i64 ↑q, Value.bool true, Value.int IntKind.i64 ↑q, Value.pointer (some { block := bW, off := oW + q * 3 }), Value.agg #[Value.string zw, Value.int IntKind.i64 zn, Value.int IntKind.i64 zd], xs 0, xs 1, xs 2, xs 3, xs 4, xs 5, xs 6, xs 7, xs 8, xs 9, xs 10, xs 11, xs 12, xs 13, xs 14, xs 15, xs 16, xs 17, xs 18, xs 19, xs 20, xs 21, xs 22, xs 23, xs 24, xs 25, xs 26, xs 27, xs 28, xs 29, xs 30, xs 31, xs 32, xs 33, xs 34, xs 35, xs 36, xs 37, xs 38, u187, u188, undef], defers := [] } ∧ (∀ j, listed.getD j false = true → CV [some (.pointer (some ⟨b16, 1, none⟩)), some (.agg #[.int .i64 zn, .int .i64 zd]), some (.slice (some ⟨bW, oW, none⟩) n wc), some (.pointer (some ⟨bW, oW, none⟩)), some (.pointer (some ⟨bW, oW + 1, none⟩)), some (.agg #[.int .i64 w0.num, .int .i64 w0.den]), some (.bool (fEq zn zd w0.num w0.den)), some (.pointer (some ⟨b5, 2, none⟩)), some (.slice xA xn xc), some (.pointer (some ⟨b16, 0, none⟩)), some (.string zw), some (.bool (fEq zn zd w0.num w0.den)), some (.bool false), some (.bool false), some (.int .i64 (q : Int)), some (.bool true), some (.bool true), some (.pointer (some ⟨b16, 1, none⟩)), some (.agg #[.int .i64 zn, .int .i64 zd]), some (.slice (some ⟨bW, oW, none⟩) n wc), some (.int .i64 (q : Int)), some (.int .i64 ((q : Int) - 1)), some (.pointer (some ⟨bW, oW + (q - 1) * 3, none⟩)), some (.pointer (some ⟨bW, oW + (q - 1) * 3 + 1, none⟩)), some (.agg #[.int .i64 yp.num, .int .i64 yp.den]), some (.bool false), some (.bool false), some (.bool false), some (undef), some (undef), some (undef), some (undef), some (undef), some (undef), some (undef), some (undef), some (undef), some (.bool false), some (.bool false)] j w' (xs j)) ∧ KK2 (kk + 1) w' ∧ w'.heap[b5]? = some (.cells #[.int .i64 xf, .int .i64 xt, .slice xA xn xc] 86 (0, 0)) ∧ w'.heap[b16]? = some (.cells #[.string zw, .int .i64 zn, .int .i64 zd] 67 (0, 0)) ∧ RS 9 w' xA xn xw ∧ RWh w' (some ⟨bW, oW, none⟩) n ws) ?h0 (AllOps.of ?hs) ?he
                        case h0 => exact ⟨fun j => match j with | 0 => u148 | 1 => u149 | 2 => u150 | 3 => u151 | 4 => u152 | 5 => u153 | 6 => u154 | 7 => u155 | 8 => u156 | 9 => u157 | 10 => u158 | 11 => u159 | 12 => u160 | 13 => u161 | 14 => u162 | 15 => u163 | 16 => u164 | 17 => u165 | 18 => u166 | 19 => u167 | 20 => u168 | 21 => u169 | 22 => u170 | 23 => u171 | 24 => u172 | 25 => u173 | 26 => u174 | 27 => u175 | 28 => u176 | 29 => u177 | 30 => u178 | 31 => u179 | 32 => u180 | 33 => u181 | 34 => u182 | 35 => u183 | 36 => u184 | 37 => u185 | 38 => u186 | _ => undef, rfl, (fun j hj => by rw [rep_false] at hj; cases hj), kb _ _ _ K6 (below_drewN (Below.refl _ _) 1), hx6, hz6, hW6, hQ6⟩
                        case hs =>
                          refine ⟨?_, ?_, ?_, ?_, ?_, ?_, ?_, ?_, ?_, ?_, ?_, ?_, ?_, ?_, ?_, ?_, ?_, ?_, ?_, ?_, ?_, ?_, ?_, ?_, ?_, ?_, ?_, ?_, ?_, ?_, ?_, ?_, ?_, ?_, ?_, ?_, ?_, ?_, ?_, trivial⟩
                          · intro listed a w' hs hI h0 hd K2 hK
                            obtain ⟨xs, rfl, hC, hK0, hb0, hz0, hR0, hQ0⟩ := hI
                            have hK2 := Lib.hid hK
                            have hC2 := Lib.hid hC
                            clear hd hK hC h0
                            go_simp
                            exact hK2.out _ _ ⟨updV xs 0 (.pointer (some ⟨b16, 1, none⟩)), by simp [updV], cond_set hC2.out (fun _ _ h => h) (CV.of rfl rfl), hK0, hb0, hz0, hR0, hQ0⟩
                          · intro listed a w' hs hI h0 hd K2 hK
                            obtain ⟨xs, rfl, hC, hK0, hb0, hz0, hR0, hQ0⟩ := hI
                            have e0 : xs 0 = .pointer (some ⟨b16, 1, none⟩) := (hC 0 (hd ⟨0, .data⟩ (by simp) rfl)) _ rfl
                            have hK2 := Lib.hid hK
                            have hC2 := Lib.hid hC
                            have y1 := (blk_facts hz0).1 1
                            have y2 := (blk_facts hz0).1 2
                            clear hd hK hC h0
                            go_simp
                            exact hK2.out _ _ ⟨updV xs 1 (.agg #[.int .i64 zn, .int .i64 zd]), by simp [updV, e0], cond_set hC2.out (fun _ _ h => h) (CV.of rfl rfl), hK0, hb0, hz0, hR0, hQ0⟩
                          · intro listed a w' hs hI h0 hd K2 hK
                            obtain ⟨xs, rfl, hC, hK0, hb0, hz0, hR0, hQ0⟩ := hI
                            have hK2 := Lib.hid hK
                            have hC2 := Lib.hid hC
                            clear hd hK hC h0
                            go_simp
                            exact hK2.out _ _ ⟨updV xs 2 (.slice (some ⟨bW, oW, none⟩) n wc), by simp [updV], cond_set hC2.out (fun _ _ h => h) (CV.of rfl rfl), hK0, hb0, hz0, hR0, hQ0⟩
                          · intro listed a w' hs hI h0 hd K2 hK
                            obtain ⟨xs, rfl, hC, hK0, hb0, hz0, hR0, hQ0⟩ := hI
                            have e2 : xs 2 = .slice (some ⟨bW, oW, none⟩) n wc := (hC 2 (hd ⟨2, .data⟩ (by simp) rfl)) _ rfl
                            have hK2 := Lib.hid hK
                            have hC2 := Lib.hid hC
                            have hn9 : 0 < n := by omega
                            clear hd hK hC h0
                            go_simp
                            exact hK2.out _ _ ⟨updV xs 3 (.pointer (some ⟨bW, oW, none⟩)), by simp [updV, e2], cond_set hC2.out (fun _ _ h => h) (CV.of rfl rfl), hK0, hb0, hz0, hR0, hQ0⟩
                          · intro listed a w' hs hI h0 hd K2 hK
                            obtain ⟨xs, rfl, hC, hK0, hb0, hz0, hR0, hQ0⟩ := hI
                            have e3 : xs 3 = .pointer (some ⟨bW, oW, none⟩) := (hC 3 (hd ⟨3, .data⟩ (by simp) rfl)) _ rfl
                            have hK2 := Lib.hid hK
                            have hC2 := Lib.hid hC
                            clear hd hK hC h0
                            go_simp
                            exact hK2.out _ _ ⟨updV xs 4 (.pointer (some ⟨bW, oW + 1, none⟩)), by simp [updV, e3], cond_set hC2.out (fun _ _ h => h) (CV.of rfl rfl), hK0, hb0, hz0, hR0, hQ0⟩
                          · intro listed a w' hs hI h0 hd K2 hK
                            obtain ⟨xs, rfl, hC, hK0, hb0, hz0, hR0, hQ0⟩ := hI
                            have e4 : xs 4 = .pointer (some ⟨bW, oW + 1, none⟩) := (hC 4 (hd ⟨4, .data⟩ (by simp) rfl)) _ rfl
                            have hK2 := Lib.hid hK
                            have hC2 := Lib.hid hC
                            obtain ⟨_, y1, y2⟩ := hQ0.cells hw0
                            rw [Nat.zero_mul, Nat.add_zero] at y1 y2
                            clear hd hK hC h0
                            go_simp
                            exact hK2.out _ _ ⟨updV xs 5 (.agg #[.int .i64 w0.num, .int .i64 w0.den]), by simp [updV, e4], cond_set hC2.out (fun _ _ h => h) (CV.of rfl rfl), hK0, hb0, hz0, hR0, hQ0⟩
                          · intro listed a w' hs hI h0 hd K2 hK
                            obtain ⟨xs, rfl, hC, hK0, hb0, hz0, hR0, hQ0⟩ := hI
                            have e1 : xs 1 = .agg #[.int .i64 zn, .int .i64 zd] := (hC 1 (hd ⟨1, .data⟩ (by simp) rfl)) _ rfl
                            have e5 : xs 5 = .agg #[.int .i64 w0.num, .int .i64 w0.den] := (hC 5 (hd ⟨5, .data⟩ (by simp) rfl)) _ rfl
                            have hK2 := Lib.hid hK
                            have hC2 := Lib.hid hC
                            clear hd hK hC h0
                            go_simp
                            exact hK2.out _ _ ⟨updV xs 6 (.bool (fEq zn zd w0.num w0.den)), by simp [updV, e1, e5], cond_set hC2.out (fun _ _ h => h) (CV.of rfl rfl), hK0, hb0, hz0, hR0, hQ0⟩
                          · intro listed a w' hs hI h0 hd K2 hK
                            obtain ⟨xs, rfl, hC, hK0, hb0, hz0, hR0, hQ0⟩ := hI
                            have hK2 := Lib.hid hK
                            have hC2 := Lib.hid hC
                            clear hd hK hC h0
                            go_simp
                            exact hK2.out _ _ ⟨updV xs 7 (.pointer (some ⟨b5, 2, none⟩)), by simp [updV], cond_set hC2.out (fun _ _ h => h) (CV.of rfl rfl), hK0, hb0, hz0, hR0, hQ0⟩
                          · intro listed a w' hs hI h0 hd K2 hK
                            obtain ⟨xs, rfl, hC, hK0, hb0, hz0, hR0, hQ0⟩ := hI
                            have e7 : xs 7 = .pointer (some ⟨b5, 2, none⟩) := (hC 7 (hd ⟨7, .data⟩ (by simp) rfl)) _ rfl
                            have hK2 := Lib.hid hK
                            have hC2 := Lib.hid hC
                            have y2 := (blk_facts hb0).1 2
                            clear hd hK hC h0
                            go_simp
                            exact hK2.out _ _ ⟨updV xs 8 (.slice xA xn xc), by simp [updV, e7], cond_set hC2.out (fun _ _ h => h) (CV.of rfl rfl), hK0, hb0, hz0, hR0, hQ0⟩
                          · intro listed a w' hs hI h0 hd K2 hK
                            obtain ⟨xs, rfl, hC, hK0, hb0, hz0, hR0, hQ0⟩ := hI
                            have hK2 := Lib.hid hK
                            have hC2 := Lib.hid hC
                            clear hd hK hC h0
                            go_simp
                            exact hK2.out _ _ ⟨updV xs 9 (.pointer (some ⟨b16, 0, none⟩)), by simp [updV], cond_set hC2.out (fun _ _ h => h) (CV.of rfl rfl), hK0, hb0, hz0, hR0, hQ0⟩
                          · intro listed a w' hs hI h0 hd K2 hK
                            obtain ⟨xs, rfl, hC, hK0, hb0, hz0, hR0, hQ0⟩ := hI
                            have e9 : xs 9 = .pointer (some ⟨b16, 0, none⟩) := (hC 9 (hd ⟨9, .data⟩ (by simp) rfl)) _ rfl
                            have hK2 := Lib.hid hK
                            have hC2 := Lib.hid hC
                            have y0 := (blk_facts hz0).1 0
                            clear hd hK hC h0
                            go_simp
                            exact hK2.out _ _ ⟨updV xs 10 (.string zw), by simp [updV, e9], cond_set hC2.out (fun _ _ h => h) (CV.of rfl rfl), hK0, hb0, hz0, hR0, hQ0⟩
                          · intro listed a w' hs hI h0 hd K2 hK
                            obtain ⟨xs, rfl, hC, hK0, hb0, hz0, hR0, hQ0⟩ := hI
                            have e8 : xs 8 = .slice xA xn xc := (hC 8 (hd ⟨8, .data⟩ (by simp) rfl)) _ rfl
                            have e10 : xs 10 = .string zw := (hC 10 (hd ⟨10, .data⟩ (by simp) rfl)) _ rfl
                            have hK2 := Lib.hid hK
                            have hC2 := Lib.hid hC
                            clear hd hK hC h0
                            go_simp
                            refine (hCo.out _ _ _ _ _ _ hR0).mono ?_; rintro e w14 ⟨rfl, rfl⟩
                            rw [hcz1]
                            exact hK2.out _ _ ⟨updV xs 11 (.bool (fEq zn zd w0.num w0.den)), by simp [updV, e8, e10], cond_set hC2.out (fun _ _ h => h) (CV.of rfl rfl), hK0, hb0, hz0, hR0, hQ0⟩
                          · intro listed a w' hs hI h0 hd K2 hK
                            obtain ⟨xs, rfl, hC, hK0, hb0, hz0, hR0, hQ0⟩ := hI
                            have e6 : xs 6 = .bool (fEq zn zd w0.num w0.den) := (hC 6 (hd ⟨6, .data⟩ (by simp) rfl)) _ rfl
                            have e11 : xs 11 = .bool (fEq zn zd w0.num w0.den) := (hC 11 (hd ⟨11, .data⟩ (by simp) rfl)) _ rfl
                            have hK2 := Lib.hid hK
                            have hC2 := Lib.hid hC
                            clear hd hK hC h0
                            go_simp
                            exact hK2.out _ _ ⟨updV xs 12 (.bool false), by simp [updV, e6, e11], cond_set hC2.out (fun _ _ h => h) (CV.of rfl rfl), hK0, hb0, hz0, hR0, hQ0⟩
                          · intro listed a w' hs hI h0 hd K2 hK
                            obtain ⟨xs, rfl, hC, hK0, hb0, hz0, hR0, hQ0⟩ := hI
                            have e12 : xs 12 = .bool false := (hC 12 (hd ⟨12, .data⟩ (by simp) rfl)) _ rfl
                            have hK2 := Lib.hid hK
                            have hC2 := Lib.hid hC
                            clear hd hK hC h0
                            go_simp
                            exact hK2.out _ _ ⟨updV xs 13 (.bool false), by simp [updV, e12], cond_set hC2.out (fun _ _ h => h) (CV.of rfl rfl), hK0, hb0, hz0, hR0, hQ0⟩
                          · intro listed a w' hs hI h0 hd K2 hK
                            obtain ⟨xs, rfl, hC, hK0, hb0, hz0, hR0, hQ0⟩ := hI
                            have e13 : xs 13 = .bool false := (hC 13 (hd ⟨13, .guard⟩ (by simp) rfl)) _ rfl
                            have hK2 := Lib.hid hK
                            have hC2 := Lib.hid hC
                            clear hd hK hC h0
                            go_simp
                            exact hK2.out _ _ ⟨updV xs 14 (.int .i64 (q : Int)), by simp [updV, e13], cond_set hC2.out (fun _ _ h => h) (CV.of rfl rfl), hK0, hb0, hz0, hR0, hQ0⟩
                          · intro listed a w' hs hI h0 hd K2 hK
                            obtain ⟨xs, rfl, hC, hK0, hb0, hz0, hR0, hQ0⟩ := hI
                            have e13 : xs 13 = .bool false := (hC 13 (hd ⟨13, .guard⟩ (by simp) rfl)) _ rfl
                            have e14 : xs 14 = .int .i64 (q : Int) := (hC 14 (hd ⟨14, .data⟩ (by simp) rfl)) _ rfl
                            have hK2 := Lib.hid hK
                            have hC2 := Lib.hid hC
                            clear hd hK hC h0
                            go_simp
                            exact hK2.out _ _ ⟨updV xs 15 (.bool true), by simp [updV, e13, e14], cond_set hC2.out (fun _ _ h => h) (CV.of rfl rfl), hK0, hb0, hz0, hR0, hQ0⟩
                          · intro listed a w' hs hI h0 hd K2 hK
                            obtain ⟨xs, rfl, hC, hK0, hb0, hz0, hR0, hQ0⟩ := hI
                            have e13 : xs 13 = .bool false := (hC 13 (hd ⟨13, .guard⟩ (by simp) rfl)) _ rfl
                            have e15 : xs 15 = .bool true := (hC 15 (hd ⟨15, .data⟩ (by simp) rfl)) _ rfl
                            have hK2 := Lib.hid hK
                            have hC2 := Lib.hid hC
                            clear hd hK hC h0
                            go_simp
                            exact hK2.out _ _ ⟨updV xs 16 (.bool true), by simp [updV, e13, e15], cond_set hC2.out (fun _ _ h => h) (CV.of rfl rfl), hK0, hb0, hz0, hR0, hQ0⟩
                          · intro listed a w' hs hI h0 hd K2 hK
                            obtain ⟨xs, rfl, hC, hK0, hb0, hz0, hR0, hQ0⟩ := hI
                            have e16 : xs 16 = .bool true := (hC 16 (hd ⟨16, .guard⟩ (by simp) rfl)) _ rfl
                            have hK2 := Lib.hid hK
                            have hC2 := Lib.hid hC
                            clear hd hK hC h0
                            go_simp
                            exact hK2.out _ _ ⟨updV xs 17 (.pointer (some ⟨b16, 1, none⟩)), by simp [updV, e16], cond_set hC2.out (fun _ _ h => h) (CV.of rfl rfl), hK0, hb0, hz0, hR0, hQ0⟩
                          · intro listed a w' hs hI h0 hd K2 hK
                            obtain ⟨xs, rfl, hC, hK0, hb0, hz0, hR0, hQ0⟩ := hI
                            have e16 : xs 16 = .bool true := (hC 16 (hd ⟨16, .guard⟩ (by simp) rfl)) _ rfl
                            have e17 : xs 17 = .pointer (some ⟨b16, 1, none⟩) := (hC 17 (hd ⟨17, .data⟩ (by simp) rfl)) _ rfl
                            have hK2 := Lib.hid hK
                            have hC2 := Lib.hid hC
                            have y1 := (blk_facts hz0).1 1
                            have y2 := (blk_facts hz0).1 2
                            clear hd hK hC h0
                            go_simp
                            exact hK2.out _ _ ⟨updV xs 18 (.agg #[.int .i64 zn, .int .i64 zd]), by simp [updV, e16, e17], cond_set hC2.out (fun _ _ h => h) (CV.of rfl rfl), hK0, hb0, hz0, hR0, hQ0⟩
                          · intro listed a w' hs hI h0 hd K2 hK
                            obtain ⟨xs, rfl, hC, hK0, hb0, hz0, hR0, hQ0⟩ := hI
                            have e16 : xs 16 = .bool true := (hC 16 (hd ⟨16, .guard⟩ (by simp) rfl)) _ rfl
                            have hK2 := Lib.hid hK
                            have hC2 := Lib.hid hC
                            clear hd hK hC h0
                            go_simp
                            exact hK2.out _ _ ⟨updV xs 19 (.slice (some ⟨bW, oW, none⟩) n wc), by simp [updV, e16], cond_set hC2.out (fun _ _ h => h) (CV.of rfl rfl), hK0, hb0, hz0, hR0, hQ0⟩
                          · intro listed a w' hs hI h0 hd K2 hK
                            obtain ⟨xs, rfl, hC, hK0, hb0, hz0, hR0, hQ0⟩ := hI
                            have e16 : xs 16 = .bool true := (hC 16 (hd ⟨16, .guard⟩ (by simp) rfl)) _ rfl
                            have hK2 := Lib.hid hK
                            have hC2 := Lib.hid hC
                            clear hd hK hC h0
                            go_simp
                            exact hK2.out _ _ ⟨updV xs 20 (.int .i64 (q : Int)), by simp [updV, e16], cond_set hC2.out (fun _ _ h => h) (CV.of rfl rfl), hK0, hb0, hz0, hR0, hQ0⟩
                          · intro listed a w' hs hI h0 hd K2 hK
                            obtain ⟨xs, rfl, hC, hK0, hb0, hz0, hR0, hQ0⟩ := hI
                            have e16 : xs 16 = .bool true := (hC 16 (hd ⟨16, .guard⟩ (by simp) rfl)) _ rfl
                            have e20 : xs 20 = .int .i64 (q : Int) := (hC 20 (hd ⟨20, .data⟩ (by simp) rfl)) _ rfl
                            have hK2 := Lib.hid hK
                            have hC2 := Lib.hid hC
                            clear hd hK hC h0
                            go_simp
                            exact hK2.out _ _ ⟨updV xs 21 (.int .i64 ((q : Int) - 1)), by simp [updV, e16, e20], cond_set hC2.out (fun _ _ h => h) (CV.of rfl rfl), hK0, hb0, hz0, hR0, hQ0⟩
                          · intro listed a w' hs hI h0 hd K2 hK
                            obtain ⟨xs, rfl, hC, hK0, hb0, hz0, hR0, hQ0⟩ := hI
                            have e16 : xs 16 = .bool true := (hC 16 (hd ⟨16, .guard⟩ (by simp) rfl)) _ rfl
                            have e19 : xs 19 = .slice (some ⟨bW, oW, none⟩) n wc := (hC 19 (hd ⟨19, .data⟩ (by simp) rfl)) _ rfl
                            have e21 : xs 21 = .int .i64 ((q : Int) - 1) := (hC 21 (hd ⟨21, .data⟩ (by simp) rfl)) _ rfl
                            have hK2 := Lib.hid hK
                            have hC2 := Lib.hid hC
                            have hw7 : (1 : Int) ≤ (q : Int) := by omega
                            clear hd hK hC h0
                            go_simp
                            exact hK2.out _ _ ⟨updV xs 22 (.pointer (some ⟨bW, oW + (q - 1) * 3, none⟩)), by simp [updV, e16, e19, e21], cond_set hC2.out (fun _ _ h => h) (CV.of rfl rfl), hK0, hb0, hz0, hR0, hQ0⟩
                          · intro listed a w' hs hI h0 hd K2 hK
                            obtain ⟨xs, rfl, hC, hK0, hb0, hz0, hR0, hQ0⟩ := hI
                            have e16 : xs 16 = .bool true := (hC 16 (hd ⟨16, .guard⟩ (by simp) rfl)) _ rfl
                            have e22 : xs 22 = .pointer (some ⟨bW, oW + (q - 1) * 3, none⟩) := (hC 22 (hd ⟨22, .data⟩ (by simp) rfl)) _ rfl
                            have hK2 := Lib.hid hK
                            have hC2 := Lib.hid hC
                            clear hd hK hC h0
                            go_simp
                            exact hK2.out _ _ ⟨updV xs 23 (.pointer (some ⟨bW, oW + (q - 1) * 3 + 1, none⟩)), by simp [updV, e16, e22], cond_set hC2.out (fun _ _ h => h) (CV.of rfl rfl), hK0, hb0, hz0, hR0, hQ0⟩
                          · intro listed a w' hs hI h0 hd K2 hK
                            obtain ⟨xs, rfl, hC, hK0, hb0, hz0, hR0, hQ0⟩ := hI
                            have e16 : xs 16 = .bool true := (hC 16 (hd ⟨16, .guard⟩ (by simp) rfl)) _ rfl
                            have e23 : xs 23 = .pointer (some ⟨bW, oW + (q - 1) * 3 + 1, none⟩) := (hC 23 (hd ⟨23, .data⟩ (by simp) rfl)) _ rfl
                            have hK2 := Lib.hid hK
                            have hC2 := Lib.hid hC
                            obtain ⟨_, y1, y2⟩ := hQ0.cells hyp
                            clear hd hK hC h0
                            go_simp
                            exact hK2.out _ _ ⟨updV xs 24 (.agg #[.int .i64 yp.num, .int .i64 yp.den]), by simp [updV, e16, e23], cond_set hC2.out (fun _ _ h => h) (CV.of rfl rfl), hK0, hb0, hz0, hR0, hQ0⟩
                          · intro listed a w' hs hI h0 hd K2 hK
                            obtain ⟨xs, rfl, hC, hK0, hb0, hz0, hR0, hQ0⟩ := hI
                            have e16 : xs 16 = .bool true := (hC 16 (hd ⟨16, .guard⟩ (by simp) rfl)) _ rfl
                            have e18 : xs 18 = .agg #[.int .i64 zn, .int .i64 zd] := (hC 18 (hd ⟨18, .data⟩ (by simp) rfl)) _ rfl
                            have e24 : xs 24 = .agg #[.int .i64 yp.num, .int .i64 yp.den] := (hC 24 (hd ⟨24, .data⟩ (by simp) rfl)) _ rfl
                            have hK2 := Lib.hid hK
                            have hC2 := Lib.hid hC
                            clear hd hK hC h0
                            go_simp
                            exact hK2.out _ _ ⟨updV xs 25 (.bool false), by simp [updV, e16, e18, e24], cond_set hC2.out (fun _ _ h => h) (CV.of rfl rfl), hK0, hb0, hz0, hR0, hQ0⟩
                          · intro listed a w' hs hI h0 hd K2 hK
                            obtain ⟨xs, rfl, hC, hK0, hb0, hz0, hR0, hQ0⟩ := hI
                            have e13 : xs 13 = .bool false := (hC 13 (hd ⟨13, .guard⟩ (by simp) rfl)) _ rfl
                            have e16 : xs 16 = .bool true := (hC 16 (hd ⟨16, .data⟩ (by simp) rfl)) _ rfl
                            have e25 : xs 25 = .bool false := (hC 25 (hd ⟨25, .data⟩ (by simp) rfl)) _ rfl
                            have hK2 := Lib.hid hK
                            have hC2 := Lib.hid hC
                            clear hd hK hC h0
                            go_simp
                            exact hK2.out _ _ ⟨updV xs 26 (.bool false), by simp [updV, e13, e16, e25], cond_set hC2.out (fun _ _ h => h) (CV.of rfl rfl), hK0, hb0, hz0, hR0, hQ0⟩
                          · intro listed a w' hs hI h0 hd K2 hK
                            obtain ⟨xs, rfl, hC, hK0, hb0, hz0, hR0, hQ0⟩ := hI
                            have e13 : xs 13 = .bool false := (hC 13 (hd ⟨13, .guard⟩ (by simp) rfl)) _ rfl
                            have e26 : xs 26 = .bool false := (hC 26 (hd ⟨26, .data⟩ (by simp) rfl)) _ rfl
                            have hK2 := Lib.hid hK
                            have hC2 := Lib.hid hC
                            clear hd hK hC h0
                            go_simp
                            exact hK2.out _ _ ⟨updV xs 27 (.bool false), by simp [updV, e13, e26], cond_set hC2.out (fun _ _ h => h) (CV.of rfl rfl), hK0, hb0, hz0, hR0, hQ0⟩
                          · intro listed a w' hs hI h0 hd K2 hK
                            obtain ⟨xs, rfl, hC, hK0, hb0, hz0, hR0, hQ0⟩ := hI
                            have e27 : xs 27 = .bool false := (hC 27 (hd ⟨27, .guard⟩ (by simp) rfl)) _ rfl
                            have hK2 := Lib.hid hK
                            have hC2 := Lib.hid hC
                            clear hd hK hC h0
                            go_simp
                            exact hK2.out _ _ ⟨updV xs 28 (undef), by simp [updV, e27], cond_set hC2.out (fun _ _ h => h) (CV.of rfl rfl), hK0, hb0, hz0, hR0, hQ0⟩
                          · intro listed a w' hs hI h0 hd K2 hK
                            obtain ⟨xs, rfl, hC, hK0, hb0, hz0, hR0, hQ0⟩ := hI
                            have e27 : xs 27 = .bool false := (hC 27 (hd ⟨27, .guard⟩ (by simp) rfl)) _ rfl
                            have e28 : xs 28 = undef := (hC 28 (hd ⟨28, .data⟩ (by simp) rfl)) _ rfl
                            have hK2 := Lib.hid hK
                            have hC2 := Lib.hid hC
                            clear hd hK hC h0
                            go_simp
                            exact hK2.out _ _ ⟨updV xs 29 (undef), by simp [updV, e27, e28], cond_set hC2.out (fun _ _ h => h) (CV.of rfl rfl), hK0, hb0, hz0, hR0, hQ0⟩
                          · intro listed a w' hs hI h0 hd K2 hK
                            obtain ⟨xs, rfl, hC, hK0, hb0, hz0, hR0, hQ0⟩ := hI
                            have e27 : xs 27 = .bool false := (hC 27 (hd ⟨27, .guard⟩ (by simp) rfl)) _ rfl
                            have hK2 := Lib.hid hK
                            have hC2 := Lib.hid hC
                            clear hd hK hC h0
                            go_simp
                            exact hK2.out _ _ ⟨updV xs 30 (undef), by simp [updV, e27], cond_set hC2.out (fun _ _ h => h) (CV.of rfl rfl), hK0, hb0, hz0, hR0, hQ0⟩
                          · intro listed a w' hs hI h0 hd K2 hK
                            obtain ⟨xs, rfl, hC, hK0, hb0, hz0, hR0, hQ0⟩ := hI
                            have e27 : xs 27 = .bool false := (hC 27 (hd ⟨27, .guard⟩ (by simp) rfl)) _ rfl
                            have hK2 := Lib.hid hK
                            have hC2 := Lib.hid hC
                            clear hd hK hC h0
                            go_simp
                            exact hK2.out _ _ ⟨updV xs 31 (undef), by simp [updV, e27], cond_set hC2.out (fun _ _ h => h) (CV.of rfl rfl), hK0, hb0, hz0, hR0, hQ0⟩
                          · intro listed a w' hs hI h0 hd K2 hK
                            obtain ⟨xs, rfl, hC, hK0, hb0, hz0, hR0, hQ0⟩ := hI
                            have e27 : xs 27 = .bool false := (hC 27 (hd ⟨27, .guard⟩ (by simp) rfl)) _ rfl
                            have e31 : xs 31 = undef := (hC 31 (hd ⟨31, .data⟩ (by simp) rfl)) _ rfl
                            have hK2 := Lib.hid hK
                            have hC2 := Lib.hid hC
                            clear hd hK hC h0
                            go_simp
                            exact hK2.out _ _ ⟨updV xs 32 (undef), by simp [updV, e27, e31], cond_set hC2.out (fun _ _ h => h) (CV.of rfl rfl), hK0, hb0, hz0, hR0, hQ0⟩
                          · intro listed a w' hs hI h0 hd K2 hK
                            obtain ⟨xs, rfl, hC, hK0, hb0, hz0, hR0, hQ0⟩ := hI
                            have e27 : xs 27 = .bool false := (hC 27 (hd ⟨27, .guard⟩ (by simp) rfl)) _ rfl
                            have e30 : xs 30 = undef := (hC 30 (hd ⟨30, .data⟩ (by simp) rfl)) _ rfl
                            have e32 : xs 32 = undef := (hC 32 (hd ⟨32, .data⟩ (by simp) rfl)) _ rfl
                            have hK2 := Lib.hid hK
                            have hC2 := Lib.hid hC
                            clear hd hK hC h0
                            go_simp
                            exact hK2.out _ _ ⟨updV xs 33 (undef), by simp [updV, e27, e30, e32], cond_set hC2.out (fun _ _ h => h) (CV.of rfl rfl), hK0, hb0, hz0, hR0, hQ0⟩
                          · intro listed a w' hs hI h0 hd K2 hK
                            obtain ⟨xs, rfl, hC, hK0, hb0, hz0, hR0, hQ0⟩ := hI
                            have e27 : xs 27 = .bool false := (hC 27 (hd ⟨27, .guard⟩ (by simp) rfl)) _ rfl
                            have e33 : xs 33 = undef := (hC 33 (hd ⟨33, .data⟩ (by simp) rfl)) _ rfl
                            have hK2 := Lib.hid hK
                            have hC2 := Lib.hid hC
                            clear hd hK hC h0
                            go_simp
                            exact hK2.out _ _ ⟨updV xs 34 (undef), by simp [updV, e27, e33], cond_set hC2.out (fun _ _ h => h) (CV.of rfl rfl), hK0, hb0, hz0, hR0, hQ0⟩
                          · intro listed a w' hs hI h0 hd K2 hK
                            obtain ⟨xs, rfl, hC, hK0, hb0, hz0, hR0, hQ0⟩ := hI
                            have e27 : xs 27 = .bool false := (hC 27 (hd ⟨27, .guard⟩ (by simp) rfl)) _ rfl
                            have e34 : xs 34 = undef := (hC 34 (hd ⟨34, .data⟩ (by simp) rfl)) _ rfl
                            have hK2 := Lib.hid hK
                            have hC2 := Lib.hid hC
                            clear hd hK hC h0
                            go_simp
                            exact hK2.out _ _ ⟨updV xs 35 (undef), by simp [updV, e27, e34], cond_set hC2.out (fun _ _ h => h) (CV.of rfl rfl), hK0, hb0, hz0, hR0, hQ0⟩
                          · intro listed a w' hs hI h0 hd K2 hK
                            obtain ⟨xs, rfl, hC, hK0, hb0, hz0, hR0, hQ0⟩ := hI
                            have e27 : xs 27 = .bool false := (hC 27 (hd ⟨27, .guard⟩ (by simp) rfl)) _ rfl
                            have e29 : xs 29 = undef := (hC 29 (hd ⟨29, .data⟩ (by simp) rfl)) _ rfl
                            have e35 : xs 35 = undef := (hC 35 (hd ⟨35, .data⟩ (by simp) rfl)) _ rfl
                            have hK2 := Lib.hid hK
                            have hC2 := Lib.hid hC
                            clear hd hK hC h0
                            go_simp
                            exact hK2.out _ _ ⟨updV xs 36 (undef), by simp [updV, e27, e29, e35], cond_set hC2.out (fun _ _ h => h) (CV.of rfl rfl), hK0, hb0, hz0, hR0, hQ0⟩
                          · intro listed a w' hs hI h0 hd K2 hK
                            obtain ⟨xs, rfl, hC, hK0, hb0, hz0, hR0, hQ0⟩ := hI
                            have e13 : xs 13 = .bool false := (hC 13 (hd ⟨13, .guard⟩ (by simp) rfl)) _ rfl
                            have e27 : xs 27 = .bool false := (hC 27 (hd ⟨27, .data⟩ (by simp) rfl)) _ rfl
                            have e36 : xs 36 = undef := (hC 36 (hd ⟨36, .data⟩ (by simp) rfl)) _ rfl
                            have hK2 := Lib.hid hK
                            have hC2 := Lib.hid hC
                            clear hd hK hC h0
                            go_simp
                            exact hK2.out _ _ ⟨updV xs 37 (.bool false), by simp [updV, e13, e27, e36], cond_set hC2.out (fun _ _ h => h) (CV.of rfl rfl), hK0, hb0, hz0, hR0, hQ0⟩
                          · intro listed a w' hs hI h0 hd K2 hK
                            obtain ⟨xs, rfl, hC, hK0, hb0, hz0, hR0, hQ0⟩ := hI
                            have e13 : xs 13 = .bool false := (hC 13 (hd ⟨13, .data⟩ (by simp) rfl)) _ rfl
                            have e37 : xs 37 = .bool false := (hC 37 (hd ⟨37, .data⟩ (by simp) rfl)) _ rfl
                            have hK2 := Lib.hid hK
                            have hC2 := Lib.hid hC
                            clear hd hK hC h0
                            go_simp
                            exact hK2.out _ _ ⟨updV xs 38 (.bool false), by simp [updV, e13, e37], cond_set hC2.out (fun _ _ h => h) (CV.of rfl rfl), hK0, hb0, hz0, hR0, hQ0⟩
                        case he =>
                          intro listed a w' hs hI hr
                          obtain ⟨xs, rfl, hC, hK0, hb0, hz0, hR0, hQ0⟩ := hI
                          have eL : xs 38 = .bool false := (hC 38 (all_listed hs hr ⟨rfl, rfl, rfl, rfl, rfl, rfl, rfl, rfl, rfl, rfl, rfl, rfl, rfl, rfl, rfl, rfl, rfl, rfl, rfl, rfl, rfl, rfl, rfl, rfl, rfl, rfl, rfl, rfl, rfl, rfl, rfl, rfl, rfl, rfl, rfl, rfl, rfl, rfl, rfl, trivial⟩ 38 (by simp))) _ rfl
                          clear hC hs hr
                          go_wp2
                          go_meet
                          case rel => exact ⟨by first | exact eL | rfl, hK0, hb0, hz0, hR0, hQ0⟩
                        --R28b end
                  case rest =>
                    clear K6 hx6 hz6 hW6 hQ6 hyz hcz hcz1
                    rename World => wz
                    obtain ⟨rfl, K, hx6, _, hW6, hQ6⟩ := hcut
                    go_wp2
                    go_roundw
                    case rel => exact ⟨q + 1, by omega, by go_num, K, hx6, hW6, hQ6⟩
                    case measure => simp [intOf]; omega
                · obtain rfl : n = q := by omega
                  go_wp2
                  go_roundw
                  case rel => exact ⟨jj + 1, kk + 1, by omega, by go_num, K, by omega⟩
                  case measure => simp [intOf]; omega
          · obtain rfl : m = jj := by omega
            have hBB := kB _ _ K
            clear kR kF kP kS kB kb ks K
            go_wp2_with fail
            refine (ready_c _).mono ?_; rintro e w9 ⟨rfl, B9⟩
            have hB9 := below_next hBB B9
            go_wp2
            go_ret
            exact ⟨rfl, hB9⟩
end Go.Proofs.YtmnidnmdjkfhnaaGreatDoor
