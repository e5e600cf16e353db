import Derived.Test.YtklggnglaeagpaaGreatDoorRptM
import Derived.Test.YtklggnglaeagpaaGreatDoorFnReg
/- The stream's reports as functions of the list and the place. Printed by wip/mkrpf.py out of RptM. -/
namespace Go.Proofs.YtklggnglaeagpaaGreatDoor
open Go.RowKit Go.Shelf Go.Lib Go.Sort
set_option linter.unusedVariables false

def rpStep (zs : Zs) (j kk : Nat) (ta : Int) : Rp := ⟨⟨#[105]⟩ ++ itoaS (10 + (j : Int)), pickV zs kk [⟨#[106, 97]⟩, ⟨#[106, 98]⟩], pickV zs (kk + 1) [⟨#[115, 48]⟩, ⟨#[115, 49]⟩, ⟨#[115, 50]⟩], pickV zs (kk + 1 + 1) [1, 3, 3, 4, 6], ta, pickV zs (kk + 1 + 1 + 1) [1, 1, 2], nextV zs (kk + 1 + 1 + 1 + 1) 3 == 0⟩
def rpAcc (zs : Zs) : Nat → Nat → Nat → Int → List Rp
  | 0, _, _, _ => []
  | n + 1, j, kk, ta => rpStep zs j kk ta :: rpAcc zs n (j + 1) (kk + 6) (ta + pickV zs (kk + 5) [0, 5, 40, 1000000, 1800000])
def rpFin (zs : Zs) (kk N : Nat) (l : List Rp) : List Rp × Nat :=
  if N = 0 then (l, kk) else if (nextV zs kk 15 == 0) = true then (l.set (nextV zs (kk + 1) (N : Int)).toNat ⟨pickV zs (kk + 2) [(l.getD (nextV zs (kk + 1) (N : Int)).toNat ⟨⟨#[]⟩, ⟨#[]⟩, ⟨#[]⟩, 0, 0, 0, false⟩).id, ⟨#[]⟩, ⟨#[105, 49, 48]⟩], (l.getD (nextV zs (kk + 1) (N : Int)).toNat ⟨⟨#[]⟩, ⟨#[]⟩, ⟨#[]⟩, 0, 0, 0, false⟩).jd, (l.getD (nextV zs (kk + 1) (N : Int)).toNat ⟨⟨#[]⟩, ⟨#[]⟩, ⟨#[]⟩, 0, 0, 0, false⟩).who, oddV zs (kk + 3) 1 8, pickV zs (kk + 7) [(l.getD (nextV zs (kk + 1) (N : Int)).toNat ⟨⟨#[]⟩, ⟨#[]⟩, ⟨#[]⟩, 0, 0, 0, false⟩).tm, 0, -1], oddV zs (kk + 5) 1 2, (l.getD (nextV zs (kk + 1) (N : Int)).toNat ⟨⟨#[]⟩, ⟨#[]⟩, ⟨#[]⟩, 0, 0, 0, false⟩).nt⟩, kk + 8) else (l, kk + 1)
/-- Reports: what comes, and where the stream stands behind it -/
def reportsV (zs : Zs) (k M : Nat) : List Rp × Nat := rpFin zs (k + 1 + 6 * M) M (rpAcc zs M 0 (k + 1) (pickV zs k [0, 10]))
def rightReportsV (zs : Zs) (M : Nat) : Nat → Nat → List Rp × Nat
  | 0, k => ([], k)
  | t + 1, k => if rpErr (reportsV zs k M).1 = 0 then reportsV zs k M else rightReportsV zs M t (reportsV zs k M).2
/-- the place and the row in the last region, by how many of its calls and stores were carried out -/
def rpKf (kk : Nat) : Nat → Nat
  | 0 => kk + 2
  | 1 => kk + 3
  | 2 => kk + 5
  | 3 => kk + 7
  | _ + 4 => kk + 8
def rpLf (l : List Rp) (q : Nat) (x : Rp) (a10 : ByteArray) (a12 a14 a21 : Int) : Nat → List Rp
  | 0 => l
  | 1 => l
  | 2 => l
  | 3 => l
  | 4 => l
  | 5 => l.set q ⟨a10, x.jd, x.who, x.fault, x.tm, x.wt, x.nt⟩
  | 6 => (l.set q ⟨a10, x.jd, x.who, x.fault, x.tm, x.wt, x.nt⟩).set q ⟨a10, x.jd, x.who, a12, x.tm, x.wt, x.nt⟩
  | 7 => ((l.set q ⟨a10, x.jd, x.who, x.fault, x.tm, x.wt, x.nt⟩).set q ⟨a10, x.jd, x.who, a12, x.tm, x.wt, x.nt⟩).set q ⟨a10, x.jd, x.who, a12, x.tm, a14, x.nt⟩
  | _ + 8 => (((l.set q ⟨a10, x.jd, x.who, x.fault, x.tm, x.wt, x.nt⟩).set q ⟨a10, x.jd, x.who, a12, x.tm, x.wt, x.nt⟩).set q ⟨a10, x.jd, x.who, a12, x.tm, a14, x.nt⟩).set q ⟨a10, x.jd, x.who, a12, a21, a14, x.nt⟩
/-- what Reports hands back, told -/
def RetRpF (w : World) (g : Nat) (zs : Zs) (k M : Nat) (RV : List Rp × Nat) (e : Ending) (w' : World) : Prop := ∃ (A : Option Addr) (c : Nat), e = .returned (.slice A M c) ∧ w'.ownsRow w.heap.size 96 7 (.slice A M c) M (RV.1.flatMap rpE) ∧ RV.1.length = M ∧ St w' g zs RV.2 ∧ RV.2 ≤ k + 7 * M + 20 ∧ w.grownBy w' (some g)
set_option maxHeartbeats 6400000 in
set_option maxRecDepth 100000 in
theorem reportsF_c (g : Nat) (zs : Zs) (k M : Nat) (w w0 : World) (h : St w g zs k) (hk : k + 2000 ≤ 1099511627776) (hM : M ≤ 100) (hT : Tb w0) (hb0 : Below w0.heap.size w0 w) (hg0 : w0.heap.size ≤ g) :
    Calls Tryz.prog 144 #[.pointer (some ⟨g, 0, none⟩), .int .i64 M] w (RetRpF w g zs k M (reportsV zs k M)) := by
  have hglt := h.lt
  have hTb := Lib.hid (fun wx (hg : w.grownBy wx (some g)) => hT.below (hb0.trans (grown_below hg hg0 hb0.size)))
  clear hT hb0 hg0
  have hV := Lib.hid (show reportsV zs k M = rpFin zs (k + 1 + 6 * M) M (rpAcc zs M 0 (k + 1) (pickV zs k [0, 10])) from rfl)
  generalize reportsV zs k M = RV at *
  have hAc := Lib.hid (fun n j kk ta => show rpAcc zs (n + 1) j kk ta = rpStep zs j kk ta :: rpAcc zs n (j + 1) (kk + 6) (ta + pickV zs (kk + 5) [0, 5, 40, 1000000, 1800000]) from rfl)
  have hA0 := Lib.hid (fun j kk ta => show rpAcc zs 0 j kk ta = [] from rfl)
  have hSp := Lib.hid (fun (j kk : Nat) ta => show rpStep zs j kk ta = ⟨⟨#[105]⟩ ++ itoaS (10 + (j : Int)), pickV zs kk [⟨#[106, 97]⟩, ⟨#[106, 98]⟩], pickV zs (kk + 1) [⟨#[115, 48]⟩, ⟨#[115, 49]⟩, ⟨#[115, 50]⟩], pickV zs (kk + 1 + 1) [1, 3, 3, 4, 6], ta, pickV zs (kk + 1 + 1 + 1) [1, 1, 2], nextV zs (kk + 1 + 1 + 1 + 1) 3 == 0⟩ from rfl)
  have hFn := Lib.hid (fun kk N (l : List Rp) => show rpFin zs kk N l = if N = 0 then (l, kk) else if (nextV zs kk 15 == 0) = true then (l.set (nextV zs (kk + 1) (N : Int)).toNat ⟨pickV zs (kk + 2) [(l.getD (nextV zs (kk + 1) (N : Int)).toNat ⟨⟨#[]⟩, ⟨#[]⟩, ⟨#[]⟩, 0, 0, 0, false⟩).id, ⟨#[]⟩, ⟨#[105, 49, 48]⟩], (l.getD (nextV zs (kk + 1) (N : Int)).toNat ⟨⟨#[]⟩, ⟨#[]⟩, ⟨#[]⟩, 0, 0, 0, false⟩).jd, (l.getD (nextV zs (kk + 1) (N : Int)).toNat ⟨⟨#[]⟩, ⟨#[]⟩, ⟨#[]⟩, 0, 0, 0, false⟩).who, oddV zs (kk + 3) 1 8, pickV zs (kk + 7) [(l.getD (nextV zs (kk + 1) (N : Int)).toNat ⟨⟨#[]⟩, ⟨#[]⟩, ⟨#[]⟩, 0, 0, 0, false⟩).tm, 0, -1], oddV zs (kk + 5) 1 2, (l.getD (nextV zs (kk + 1) (N : Int)).toNat ⟨⟨#[]⟩, ⟨#[]⟩, ⟨#[]⟩, 0, 0, 0, false⟩).nt⟩, kk + 8) else (l, kk + 1) from rfl)
  generalize rpAcc zs = AC at *
  generalize rpStep zs = STP at *
  generalize rpFin zs = FIN at *
  go_enter Tryz.func144, Tryz.ntmps144
  go_wp2_with fail
  refine (pickH_c g zs k [0, 10] 0 10 2 2 w.heap.size #[.int .i64 0, .int .i64 10] w h (by omega) rfl rfl rfl (by decide) (by decide) (by simp)).mono ?_; rintro e w1 ⟨at0, hat0, rfl, at0l, at0u, s1, g1⟩
  clear h
  go_wp2_with fail
  go_loopw [5, 6, 13] (fun out av i wr => ∃ (j kk : Nat) (acc : List Rp) (ta : Int), j ≤ M ∧ i = .int .i64 j ∧ av = .int .i64 ta ∧ (0 ≤ ta ∧ ta ≤ 10 + 1800000 * (j : Int)) ∧ Hid (acc.length = j) ∧ wr.ownsRow w.heap.size 96 7 out j (acc.flatMap rpE) ∧ St wr g zs kk ∧ kk = k + 1 + 6 * j ∧ Hid (acc ++ AC (M - j) j kk ta = AC M 0 (k + 1) at0) ∧ w.grownBy wr (some g)) (fun _ _ i _ => M - (intOf i).toNat)
  case atStart => exact ⟨0, k + 1, [], at0, Nat.zero_le _, rfl, rfl, ⟨at0l, by omega⟩, Lib.hid rfl, World.ownsRow_nil _ _ _ _, s1, by omega, Lib.hid (by rw [Nat.sub_zero]; rfl), g1⟩
  case round =>
    clear s1 g1
    rename World => wr
    obtain ⟨j, kk, acc, ta, hj, rfl, rfl, ⟨ha0, ha1⟩, hla, hown, hst, hkk, hG, hgr⟩ := hrel
    have hkk' := Lib.hid hkk
    have hkb : kk ≤ k + 1 + 6 * j := Nat.le_of_eq hkk
    clear hkk
    by_cases hlt : j < M
    · have hlti : (j : Int) < M := by omega
      have u1 : IntKind.i64.wrap (10 + (j : Int)) = 10 + (j : Int) := IntWalk.i64_in _ (by omega)
      have hsI := Lib.hid (itoa_c (10 + (j : Int)) wr (hTb.out _ hgr) (by omega) (by omega))
      have hsz : 1 + (itoaS (10 + (j : Int))).size ≤ 9223372036854775807 := by
        have := Lib.itoa_length_le (10 + (j : Int)) (by omega) (by omega)
        show 1 + (Lib.itoa (10 + (j : Int))).toArray.size ≤ _
        rw [List.size_toArray]; omega
      have hsz2 : ¬ (1 + (itoaS (10 + (j : Int))).size > 9223372036854775807) := by omega
      have hst9 := Lib.hid (hSp.out j kk ta)
      generalize itoaS (10 + (j : Int)) = tx at *
      go_wp2_with fail
      refine hsI.out.mono ?_; rintro e w3 ⟨rfl, B3⟩
      have hown3 := own_below hown B3
      have s3 := hst.below B3
      have hgr3 := grown_trans hgr (grown_of_below B3)
      clear hown hst hgr B3 hsI
      go_wp2_with fail
      refine (someH_c g zs kk [⟨#[106, 97]⟩, ⟨#[106, 98]⟩] 2 2 w3.heap.size #[.string ⟨#[106, 97]⟩, .string ⟨#[106, 98]⟩] w3 s3 (by omega) rfl rfl rfl (by decide) (by decide)).mono ?_; rintro e w4 ⟨sv4, hsv4, rfl, hsm4, s4, g4⟩
      have hown4 := own_keep hown3 hglt g4
      have hgr4 := grown_trans hgr3 g4
      clear hown3 s3 hgr3 g4
      go_wp2_with fail
      refine (someH_c g zs (kk + 1) [⟨#[115, 48]⟩, ⟨#[115, 49]⟩, ⟨#[115, 50]⟩] 3 3 w4.heap.size #[.string ⟨#[115, 48]⟩, .string ⟨#[115, 49]⟩, .string ⟨#[115, 50]⟩] w4 s4 (by omega) rfl rfl rfl (by decide) (by decide)).mono ?_; rintro e w5 ⟨sv5, hsv5, rfl, hsm5, s5, g5⟩
      have hown5 := own_keep hown4 hglt g5
      have hgr5 := grown_trans hgr4 g5
      clear hown4 s4 hgr4 g5
      go_wp2_with fail
      refine (pickH_c g zs (kk + 1 + 1) [1, 3, 3, 4, 6] 1 6 5 5 w5.heap.size #[.int .i64 1, .int .i64 3, .int .i64 3, .int .i64 4, .int .i64 6] w5 s5 (by omega) rfl rfl rfl (by decide) (by decide) (by simp)).mono ?_; rintro e w6 ⟨pv6, hpv6, rfl, pl6, pu6, s6, g6⟩
      have hown6 := own_keep hown5 hglt g6
      have hgr6 := grown_trans hgr5 g6
      clear hown5 s5 hgr5 g6
      go_wp2_with fail
      refine (pickH_c g zs (kk + 1 + 1 + 1) [1, 1, 2] 1 2 3 3 w6.heap.size #[.int .i64 1, .int .i64 1, .int .i64 2] w6 s6 (by omega) rfl rfl rfl (by decide) (by decide) (by simp)).mono ?_; rintro e w7 ⟨pv7, hpv7, rfl, pl7, pu7, s7, g7⟩
      have hown7 := own_keep hown6 hglt g7
      have hgr7 := grown_trans hgr6 g7
      clear hown6 s6 hgr6 g7
      go_wp2_with fail
      refine (flipH_c g zs (kk + 1 + 1 + 1 + 1) 3 w7 s7 (by omega) (by omega) (by omega)).mono ?_; rintro e w8 ⟨fl, hfl, rfl, s8, g8⟩
      have hown8 := own_keep hown7 hglt g8
      have hgr8 := grown_trans hgr7 g8
      have hz8 := hgr8.size
      clear hown7 s7 hgr7 g8 hsm4 hsm5
      go_wp2_with (at_builtin; refine wpList_app rfl (.tmp 16) (.tmp 37) 89 rfl Tryz.underlying89 info_report rfl (by omega) (by omega) hown8 rfl rfl (by first | rfl | (simp; done)) (by rfl) (by simp [Value.oneCell']) (by omega) hz8 ?_; intro v9 w9 hown9 hg9)
      have H := Lib.hid (And.intro (show w9.ownsRow w.heap.size 96 7 v9 (j + 1) ((acc ++ [(⟨⟨#[105]⟩ ++ tx, sv4, sv5, pv6, ta, pv7, fl⟩ : Rp)]).flatMap rpE) by rw [← flat_snocR]; exact hown9) (And.intro (s8.grown hg9 (fun i hi => by have := own_row_lt hown8 i hi; omega)) (grown_own hgr8 hg9 (own_row_lt hown8))))
      have hstx := Lib.hid (show STP j kk ta = ⟨⟨#[105]⟩ ++ tx, sv4, sv5, pv6, ta, pv7, fl⟩ by rw [hst9.out, hsv4.out, hsv5.out, hpv6.out, hpv7.out, hfl.out])
      have hG9 := Lib.hid (show (acc ++ [(⟨⟨#[105]⟩ ++ tx, sv4, sv5, pv6, ta, pv7, fl⟩ : Rp)]) ++ AC (M - (j + 1)) (j + 1) (kk + 6) (ta + pickV zs (kk + 5) [0, 5, 40, 1000000, 1800000]) = AC M 0 (k + 1) at0 by
        rw [← hG.out, show M - j = (M - (j + 1)) + 1 by omega, hAc.out, hstx.out, List.append_assoc]; rfl)
      clear hG hst9 hstx hsv4 hsv5 hpv6 hpv7 hfl
      have hl9 := Lib.hid (show (acc ++ [(⟨⟨#[105]⟩ ++ tx, sv4, sv5, pv6, ta, pv7, fl⟩ : Rp)]).length = j + 1 by rw [List.length_append, hla.out]; rfl)
      generalize acc ++ [(⟨⟨#[105]⟩ ++ tx, sv4, sv5, pv6, ta, pv7, fl⟩ : Rp)] = acc9 at *
      clear hown9 hg9 hown8 s8 hgr8
      obtain ⟨ho9, s9, hgr9⟩ := H.out
      clear H
      go_wp2_with fail
      refine (pickH_c g zs (kk + 1 + 1 + 1 + 1 + 1) [0, 5, 40, 1000000, 1800000] 0 1800000 5 5 w9.heap.size #[.int .i64 0, .int .i64 5, .int .i64 40, .int .i64 1000000, .int .i64 1800000] w9 s9 (by omega) rfl rfl rfl (by decide) (by decide) (by simp)).mono ?_; rintro e w10 ⟨pv10, hpv10, rfl, pl10, pu10, s10, g10⟩
      have hown10 := own_keep ho9 hglt g10
      have hgr10 := grown_trans hgr9 g10
      have u2 : IntKind.i64.wrap (ta + pv10) = ta + pv10 := IntWalk.i64_in _ (by omega)
      have hG10 := Lib.hid (show acc9 ++ AC (M - (j + 1)) (j + 1) (kk + 1 + 1 + 1 + 1 + 1 + 1) (ta + pv10) = AC M 0 (k + 1) at0 by rw [← hpv10.out]; exact hG9.out)
      have hk10 : kk + 1 + 1 + 1 + 1 + 1 + 1 = k + 1 + 6 * (j + 1) := by have := hkk'.out; omega
      clear ho9 s9 hgr9 g10 hG9
      go_wp2
      go_roundw
      case rel => exact ⟨j + 1, _, acc9, _, by omega, by go_num, rfl, by omega, hl9, hown10, s10, hk10, hG10, hgr10⟩
      case measure => simp [intOf]; omega
    · obtain rfl : j = M := by omega
      obtain ⟨A, c, rfl⟩ := own_shape hown
      have hla' := hla.out
      have hV2 := Lib.hid (show RV = FIN kk j acc by
        have h1 := hG.out
        rw [Nat.sub_self, hA0.out, List.append_nil] at h1
        rw [hV.out, hat0.out, ← h1, hkk'.out])
      clear hTb hla hG hV
      by_cases hj0 : j = 0
      · subst hj0
        have hRV : RV = (acc, kk) := by rw [hV2.out, hFn.out, if_pos rfl]
        subst hRV
        go_wp2
        go_ret
        exact ⟨A, c, rfl, hown, hla', hst, by dsimp only; omega, hgr⟩
      have hj1 : (0 : Int) < (j : Int) := by omega
      have hj2 : 0 < j := by omega
      go_wp2_with fail
      refine (flipH_c g zs kk _ _ hst (by omega) (by omega) (by omega)).mono ?_; rintro e w7 ⟨fl, hfl, rfl, s7, g7⟩
      have hown7 := own_keep hown hglt g7
      have hgr7 := grown_trans hgr g7
      clear hown hst hgr g7
      have hV3 := hV2.out
      rw [hFn.out, if_neg hj0, hfl.out] at hV3
      clear hV2 hfl
      cases fl
      · have hRV : RV = (acc, kk + 1) := hV3
        clear hV3
        subst hRV
        go_wp2
        go_ret
        exact ⟨A, c, rfl, hown7, hla', s7, by dsimp only; omega, hgr7⟩
      · rw [if_pos rfl] at hV3
        have hV3' := Lib.hid hV3
        clear hV3
        go_wp2_with fail
        refine (nextH_c g zs _ (j : Int) _ s7 (by omega) (by omega) (by omega)).mono ?_; rintro e w8 ⟨v, hv, rfl, v0, v1, s8, g8⟩
        obtain ⟨q, rfl⟩ : ∃ q : Nat, v = q := ⟨v.toNat, by omega⟩
        have hV3 := hV3'.out
        have hown8 := own_keep hown7 hglt g8
        have hgr8 := grown_trans hgr7 g8
        obtain ⟨b, rfl, hbb⟩ := own_someN hown8 (by omega)
        have hqn : q < j := by omega
        have e8 : (q : Int) < j := by omega
        clear hown7 s7 hgr7 g8
        go_wp2_with fail
        obtain ⟨x, hx⟩ := at_of_lt (l := acc) (k := q) (by omega)
        rw [hv.out, Int.toNat_natCast, List.getD_eq_getElem?_getD, hx, Option.getD_some] at hV3
        obtain ⟨xid, xjd, xwo, xfa, xtm, xwt, xnt⟩ := x
        dsimp only at hV3
        obtain ⟨a10, ha10⟩ : ∃ v, Hid (pickV zs (kk + 2) [xid, ⟨#[]⟩, ⟨#[105, 49, 48]⟩] = v) := ⟨_, Lib.hid rfl⟩
        obtain ⟨a12, ha12⟩ : ∃ v, Hid (oddV zs (kk + 3) 1 8 = v) := ⟨_, Lib.hid rfl⟩
        obtain ⟨a14, ha14⟩ : ∃ v, Hid (oddV zs (kk + 5) 1 2 = v) := ⟨_, Lib.hid rfl⟩
        obtain ⟨a21, ha21⟩ : ∃ v, Hid (pickV zs (kk + 7) [xtm, 0, -1] = v) := ⟨_, Lib.hid rfl⟩
        rw [ha10.out, ha12.out, ha14.out, ha21.out] at hV3
        have hV3 := Lib.hid hV3
        have hlo : ∀ m, m ≤ 4 → (rpLf acc q ⟨xid, xjd, xwo, xfa, xtm, xwt, xnt⟩ a10 a12 a14 a21 m)[q]? = some ⟨xid, xjd, xwo, xfa, xtm, xwt, xnt⟩ := fun m hm => by
          match m, hm with
          | 0, _ => exact hx
          | 1, _ => exact hx
          | 2, _ => exact hx
          | 3, _ => exact hx
          | 4, _ => exact hx
        have hl0 : (rpLf acc q ⟨xid, xjd, xwo, xfa, xtm, xwt, xnt⟩ a10 a12 a14 a21 4)[q]? = some ⟨xid, xjd, xwo, xfa, xtm, xwt, xnt⟩ := hx
        have hl1 : (rpLf acc q ⟨xid, xjd, xwo, xfa, xtm, xwt, xnt⟩ a10 a12 a14 a21 5)[q]? = some ⟨a10, xjd, xwo, xfa, xtm, xwt, xnt⟩ := List.getElem?_set_self (lt_of_at hl0)
        have hl2 : (rpLf acc q ⟨xid, xjd, xwo, xfa, xtm, xwt, xnt⟩ a10 a12 a14 a21 6)[q]? = some ⟨a10, xjd, xwo, a12, xtm, xwt, xnt⟩ := List.getElem?_set_self (lt_of_at hl1)
        have hl3 : (rpLf acc q ⟨xid, xjd, xwo, xfa, xtm, xwt, xnt⟩ a10 a12 a14 a21 7)[q]? = some ⟨a10, xjd, xwo, a12, xtm, a14, xnt⟩ := List.getElem?_set_self (lt_of_at hl2)
        clear hx
        refine wp_region_inv (by kernel_rfl) (fun listed a w' => ∃ xs : Nat → Value, a = { tmps := #[.pointer (some ⟨g, 0, none⟩), .int .i64 ↑j, undef, undef, .slice none 0 0, .slice (some ⟨b, 0, none⟩) j c, .int .i64 ta, u7, .pointer (some ⟨b, q * 7, none⟩), .pointer (some ⟨g, 0, none⟩), .slice (some ⟨w.heap.size, 0, none⟩) 2 2, .int .i64 at0, .int .i64 ↑j, .int .i64 ↑j, .bool false, u15, u16, u17, u18, u19, u20, u21, u22, u23, u24, u25, u26, u27, u28, u29, u30, u31, u32, u33, u34, u35, u36, u37, u38, u39, u40, u41, u42, u43, u44, .slice (some ⟨b, 0, none⟩) j c, .int .i64 ↑j, .bool true, .bool true, .pointer (some ⟨g, 0, none⟩), .bool true, .bool true, .slice (some ⟨b, 0, none⟩) j c, .pointer (some ⟨g, 0, none⟩), .slice (some ⟨b, 0, none⟩) j c, .int .i64 ↑j, .int .i64 ↑q, .pointer (some ⟨b, q * 7, none⟩), xs 0, xs 1, xs 2, xs 3, xs 4, xs 5, xs 6, xs 7, xs 8, xs 9, xs 10, xs 11, xs 12, xs 13, xs 14, xs 15, xs 16, xs 17, xs 18, xs 19, xs 20, xs 21, xs 22, xs 23, xs 25, xs 26, xs 28, xs 29, xs 31, xs 32, undef], defers := [] } ∧ (∀ j, listed.getD j false = true → CF 3 9 [.val (.pointer (some ⟨b, q * 7, none⟩)), .val (.pointer (some ⟨b, q * 7, none⟩)), .val (.pointer (some ⟨b, q * 7, none⟩)), .val (.pointer (some ⟨b, q * 7, none⟩)), .val (.pointer (some ⟨g, 0, none⟩)), .val (.pointer (some ⟨b, q * 7, none⟩)), .val (.pointer (some ⟨b, q * 7, none⟩)), .val (.pointer (some ⟨b, q * 7, none⟩)), .val (.string xid), .strsV ([xid, ⟨#[]⟩, ⟨#[105, 49, 48]⟩]), .val (.string a10), .val (.pointer (some ⟨g, 0, none⟩)), .val (.int .i64 a12), .val (.pointer (some ⟨g, 0, none⟩)), .val (.int .i64 a14), .val (.pointer (some ⟨g, 0, none⟩)), .val (.pointer (some ⟨b, q * 7, none⟩)), .val (.pointer (some ⟨b, q * 7, none⟩)), .val (.pointer (some ⟨b, q * 7 + 4, none⟩)), .val (.int .i64 xtm), .intsV ([xtm, 0, -1]), .val (.int .i64 a21), .val (.pointer (some ⟨b, q * 7, none⟩)), .val (.pointer (some ⟨b, q * 7, none⟩)), .any, .val (.pointer (some ⟨b, q * 7, none⟩)), .val (.pointer (some ⟨b, q * 7 + 3, none⟩)), .any, .val (.pointer (some ⟨b, q * 7, none⟩)), .val (.pointer (some ⟨b, q * 7 + 5, none⟩)), .any, .val (.pointer (some ⟨b, q * 7, none⟩)), .val (.pointer (some ⟨b, q * 7 + 4, none⟩)), .any] j w' (xs j)) ∧ CH (RowX w8 g zs 96 rpE 7 w.heap.size b j c (rpKf kk) (rpLf acc q ⟨xid, xjd, xwo, xfa, xtm, xwt, xnt⟩ a10 a12 a14 a21)) [10, 12, 14, 21, 24, 27, 30, 33] [(24, 8), (24, 19)] listed w') ?h0 (AllOps.of ?hs) ?he
        case h0 => exact ⟨fun j => match j with | 0 => undef | 1 => undef | 2 => undef | 3 => undef | 4 => undef | 5 => undef | 6 => undef | 7 => undef | 8 => undef | 9 => undef | 10 => undef | 11 => undef | 12 => undef | 13 => undef | 14 => undef | 15 => undef | 16 => undef | 17 => undef | 18 => undef | 19 => undef | 20 => undef | 21 => undef | 22 => undef | 23 => undef | 25 => undef | 26 => undef | 28 => undef | 29 => undef | 31 => undef | 32 => undef | _ => undef, rfl, (fun j hj => by rw [rep_false] at hj; cases hj), CH.start (RowX.start s8 hown8)⟩
        case hs =>
          refine ⟨?_, ?_, ?_, ?_, ?_, ?_, ?_, ?_, ?_, ?_, ?_, ?_, ?_, ?_, ?_, ?_, ?_, ?_, ?_, ?_, ?_, ?_, ?_, ?_, ?_, ?_, ?_, ?_, ?_, ?_, ?_, ?_, ?_, ?_, trivial⟩
          · intro listed a w' hs hI h0 hd K' hK
            obtain ⟨xs, rfl, hC, hW⟩ := hI
            have hK2 := Lib.hid hK
            have hC2 := Lib.hid hC
            clear hd hK hC h0
            go_simp
            exact hK2.out _ _ ⟨updV xs 0 (.pointer (some ⟨b, q * 7, none⟩)), by simp [updV], cond_set hC2.out (fun _ _ h => h) rfl, hW.keep (by decide) (by decide)⟩
          · intro listed a w' hs hI h0 hd K' hK
            obtain ⟨xs, rfl, hC, hW⟩ := hI
            have hK2 := Lib.hid hK
            have hC2 := Lib.hid hC
            clear hd hK hC h0
            go_simp
            exact hK2.out _ _ ⟨updV xs 1 (.pointer (some ⟨b, q * 7, none⟩)), by simp [updV], cond_set hC2.out (fun _ _ h => h) rfl, hW.keep (by decide) (by decide)⟩
          · intro listed a w' hs hI h0 hd K' hK
            obtain ⟨xs, rfl, hC, hW⟩ := hI
            have hK2 := Lib.hid hK
            have hC2 := Lib.hid hC
            clear hd hK hC h0
            go_simp
            exact hK2.out _ _ ⟨updV xs 2 (.pointer (some ⟨b, q * 7, none⟩)), by simp [updV], cond_set hC2.out (fun _ _ h => h) rfl, hW.keep (by decide) (by decide)⟩
          · intro listed a w' hs hI h0 hd K' hK
            obtain ⟨xs, rfl, hC, hW⟩ := hI
            have hK2 := Lib.hid hK
            have hC2 := Lib.hid hC
            clear hd hK hC h0
            go_simp
            exact hK2.out _ _ ⟨updV xs 3 (.pointer (some ⟨b, q * 7, none⟩)), by simp [updV], cond_set hC2.out (fun _ _ h => h) rfl, hW.keep (by decide) (by decide)⟩
          · intro listed a w' hs hI h0 hd K' hK
            obtain ⟨xs, rfl, hC, hW⟩ := hI
            have hK2 := Lib.hid hK
            have hC2 := Lib.hid hC
            clear hd hK hC h0
            go_simp
            exact hK2.out _ _ ⟨updV xs 4 (.pointer (some ⟨g, 0, none⟩)), by simp [updV], cond_set hC2.out (fun _ _ h => h) rfl, hW.keep (by decide) (by decide)⟩
          · intro listed a w' hs hI h0 hd K' hK
            obtain ⟨xs, rfl, hC, hW⟩ := hI
            have hK2 := Lib.hid hK
            have hC2 := Lib.hid hC
            clear hd hK hC h0
            go_simp
            exact hK2.out _ _ ⟨updV xs 5 (.pointer (some ⟨b, q * 7, none⟩)), by simp [updV], cond_set hC2.out (fun _ _ h => h) rfl, hW.keep (by decide) (by decide)⟩
          · intro listed a w' hs hI h0 hd K' hK
            obtain ⟨xs, rfl, hC, hW⟩ := hI
            have e5 : xs 5 = (.pointer (some ⟨b, q * 7, none⟩)) := hC 5 (hd ⟨5, .data⟩ (by simp) rfl)
            have hK2 := Lib.hid hK
            have hC2 := Lib.hid hC
            clear hd hK hC h0
            go_simp
            exact hK2.out _ _ ⟨updV xs 6 (.pointer (some ⟨b, q * 7, none⟩)), by simp [updV, e5], cond_set hC2.out (fun _ _ h => h) rfl, hW.keep (by decide) (by decide)⟩
          · intro listed a w' hs hI h0 hd K' hK
            obtain ⟨xs, rfl, hC, hW⟩ := hI
            have e6 : xs 6 = (.pointer (some ⟨b, q * 7, none⟩)) := hC 6 (hd ⟨6, .data⟩ (by simp) rfl)
            have hK2 := Lib.hid hK
            have hC2 := Lib.hid hC
            clear hd hK hC h0
            go_simp
            exact hK2.out _ _ ⟨updV xs 7 (.pointer (some ⟨b, q * 7, none⟩)), by simp [updV, e6], cond_set hC2.out (fun _ _ h => h) rfl, hW.keep (by decide) (by decide)⟩
          · intro listed a w' hs hI h0 hd K' hK
            obtain ⟨xs, rfl, hC, hW⟩ := hI
            have e7 : xs 7 = (.pointer (some ⟨b, q * 7, none⟩)) := hC 7 (hd ⟨7, .data⟩ (by simp) rfl)
            have hK2 := Lib.hid hK
            have hC2 := Lib.hid hC
            obtain ⟨m9, hm9, hX9⟩ := CH.early (j := 4) (s := 24) hW h0 (by simp) rfl
            have c9 := hX9.load rpE_len (x := ⟨xid, xjd, xwo, xfa, xtm, xwt, xnt⟩) (hlo m9 hm9) (d := 0) (by decide) rfl
            rw [Nat.add_zero] at c9
            clear hd hK hC
            go_simp
            clear h0
            exact hK2.out _ _ ⟨updV xs 8 (.string xid), by simp [updV, e7], cond_set hC2.out (fun _ _ h => h) rfl, hW.keep (by decide) (by decide)⟩
          · intro listed a w' hs hI h0 hd K' hK
            obtain ⟨xs, rfl, hC, hW⟩ := hI
            have e8 : xs 8 = (.string xid) := hC 8 (hd ⟨8, .data⟩ (by simp) rfl)
            have hK2 := Lib.hid hK
            have hC2 := Lib.hid hC
            clear hd hK hC h0
            go_simp
            exact hK2.out _ _ ⟨updV xs 9 (.slice (some ⟨w'.heap.size, 0, none⟩) 3 3), by simp [updV, e8], cond_set hC2.out (fun j v h => SatF.alloc _ _ _ h) ⟨w'.heap.size, rfl, heap_alloc_new w' _⟩, (CH.alloc hW (fun m w o h => RowX.alloc h o) _).keep (by decide) (by decide)⟩
          · intro listed a w' hs hI h0 hd K' hK
            obtain ⟨xs, rfl, hC, hW⟩ := hI
            have e4 : xs 4 = (.pointer (some ⟨g, 0, none⟩)) := hC 4 (hd ⟨4, .data⟩ (by simp) rfl)
            obtain ⟨z9, e9, hz9⟩ : ∃ z : Nat, xs 9 = .slice (some ⟨z, 0, none⟩) 3 3 ∧ w'.heap[z]? = some (.cells (List.map Value.string [xid, ⟨#[]⟩, ⟨#[105, 49, 48]⟩]).toArray 9 (0, 0)) := hC 9 (hd ⟨9, .data⟩ (by simp) rfl)
            have hK2 := Lib.hid hK
            have hC2 := Lib.hid hC
            obtain ⟨hX9, hnx⟩ := CH.step (j := 0) hW rfl h0 (.inl rfl) (fun p hp e => by simp only [List.mem_cons, List.not_mem_nil, or_false] at hp; rcases hp with rfl | rfl <;> first | exact absurd e (by decide)) (by decide)
            have s9 : St w' g zs (kk + 2) := hX9.st
            have r9 : RS 9 w' (some ⟨z9, 0, none⟩) 3 [xid, ⟨#[]⟩, ⟨#[105, 49, 48]⟩] := R1.of_lit hz9 rfl rfl (by decide)
            clear h0
            clear hd hK hC
            go_simp
            refine (some_c g zs _ _ _ _ _ _ s9 (by omega) r9 (by decide)).mono ?_; rintro e w1 ⟨rfl, s10, g10⟩
            rw [ha10.out]
            exact hK2.out _ _ ⟨updV xs 10 (.string a10), by simp [updV, e4, e9], cond_set hC2.out (fun j v h => SatF.stream (s9.keep g10) (by decide) (by decide) _ _ h) rfl, hnx _ (hX9.call hglt s10 g10 rfl)⟩
          · intro listed a w' hs hI h0 hd K' hK
            obtain ⟨xs, rfl, hC, hW⟩ := hI
            have hK2 := Lib.hid hK
            have hC2 := Lib.hid hC
            clear hd hK hC h0
            go_simp
            exact hK2.out _ _ ⟨updV xs 11 (.pointer (some ⟨g, 0, none⟩)), by simp [updV], cond_set hC2.out (fun _ _ h => h) rfl, hW.keep (by decide) (by decide)⟩
          · intro listed a w' hs hI h0 hd K' hK
            obtain ⟨xs, rfl, hC, hW⟩ := hI
            have e11 : xs 11 = (.pointer (some ⟨g, 0, none⟩)) := hC 11 (hd ⟨11, .data⟩ (by simp) rfl)
            have hK2 := Lib.hid hK
            have hC2 := Lib.hid hC
            obtain ⟨hX9, hnx⟩ := CH.step (j := 1) hW rfl h0 (.inr ⟨10, rfl, hd ⟨10, .chain⟩ (by simp) rfl⟩) (fun p hp e => by simp only [List.mem_cons, List.not_mem_nil, or_false] at hp; rcases hp with rfl | rfl <;> first | exact absurd e (by decide)) (by decide)
            have s9 : St w' g zs (kk + 3) := hX9.st
            clear h0
            clear hd hK hC
            go_simp
            refine (odd_c g zs _ _ _ _ s9 (by omega) (by decide) (by decide) (by decide)).mono ?_; rintro e w1 ⟨rfl, s10, g10⟩
            rw [ha12.out]
            exact hK2.out _ _ ⟨updV xs 12 (.int .i64 a12), by simp [updV, e11], cond_set hC2.out (fun j v h => SatF.stream (s9.keep g10) (by decide) (by decide) _ _ h) rfl, hnx _ (hX9.call hglt s10 g10 rfl)⟩
          · intro listed a w' hs hI h0 hd K' hK
            obtain ⟨xs, rfl, hC, hW⟩ := hI
            have hK2 := Lib.hid hK
            have hC2 := Lib.hid hC
            clear hd hK hC h0
            go_simp
            exact hK2.out _ _ ⟨updV xs 13 (.pointer (some ⟨g, 0, none⟩)), by simp [updV], cond_set hC2.out (fun _ _ h => h) rfl, hW.keep (by decide) (by decide)⟩
          · intro listed a w' hs hI h0 hd K' hK
            obtain ⟨xs, rfl, hC, hW⟩ := hI
            have e13 : xs 13 = (.pointer (some ⟨g, 0, none⟩)) := hC 13 (hd ⟨13, .data⟩ (by simp) rfl)
            have hK2 := Lib.hid hK
            have hC2 := Lib.hid hC
            obtain ⟨hX9, hnx⟩ := CH.step (j := 2) hW rfl h0 (.inr ⟨12, rfl, hd ⟨12, .chain⟩ (by simp) rfl⟩) (fun p hp e => by simp only [List.mem_cons, List.not_mem_nil, or_false] at hp; rcases hp with rfl | rfl <;> first | exact absurd e (by decide)) (by decide)
            have s9 : St w' g zs (kk + 5) := hX9.st
            clear h0
            clear hd hK hC
            go_simp
            refine (odd_c g zs _ _ _ _ s9 (by omega) (by decide) (by decide) (by decide)).mono ?_; rintro e w1 ⟨rfl, s10, g10⟩
            rw [ha14.out]
            exact hK2.out _ _ ⟨updV xs 14 (.int .i64 a14), by simp [updV, e13], cond_set hC2.out (fun j v h => SatF.stream (s9.keep g10) (by decide) (by decide) _ _ h) rfl, hnx _ (hX9.call hglt s10 g10 rfl)⟩
          · intro listed a w' hs hI h0 hd K' hK
            obtain ⟨xs, rfl, hC, hW⟩ := hI
            have hK2 := Lib.hid hK
            have hC2 := Lib.hid hC
            clear hd hK hC h0
            go_simp
            exact hK2.out _ _ ⟨updV xs 15 (.pointer (some ⟨g, 0, none⟩)), by simp [updV], cond_set hC2.out (fun _ _ h => h) rfl, hW.keep (by decide) (by decide)⟩
          · intro listed a w' hs hI h0 hd K' hK
            obtain ⟨xs, rfl, hC, hW⟩ := hI
            have hK2 := Lib.hid hK
            have hC2 := Lib.hid hC
            clear hd hK hC h0
            go_simp
            exact hK2.out _ _ ⟨updV xs 16 (.pointer (some ⟨b, q * 7, none⟩)), by simp [updV], cond_set hC2.out (fun _ _ h => h) rfl, hW.keep (by decide) (by decide)⟩
          · intro listed a w' hs hI h0 hd K' hK
            obtain ⟨xs, rfl, hC, hW⟩ := hI
            have e16 : xs 16 = (.pointer (some ⟨b, q * 7, none⟩)) := hC 16 (hd ⟨16, .data⟩ (by simp) rfl)
            have hK2 := Lib.hid hK
            have hC2 := Lib.hid hC
            clear hd hK hC h0
            go_simp
            exact hK2.out _ _ ⟨updV xs 17 (.pointer (some ⟨b, q * 7, none⟩)), by simp [updV, e16], cond_set hC2.out (fun _ _ h => h) rfl, hW.keep (by decide) (by decide)⟩
          · intro listed a w' hs hI h0 hd K' hK
            obtain ⟨xs, rfl, hC, hW⟩ := hI
            have e17 : xs 17 = (.pointer (some ⟨b, q * 7, none⟩)) := hC 17 (hd ⟨17, .data⟩ (by simp) rfl)
            have hK2 := Lib.hid hK
            have hC2 := Lib.hid hC
            clear hd hK hC h0
            go_simp
            exact hK2.out _ _ ⟨updV xs 18 (.pointer (some ⟨b, q * 7 + 4, none⟩)), by simp [updV, e17], cond_set hC2.out (fun _ _ h => h) rfl, hW.keep (by decide) (by decide)⟩
          · intro listed a w' hs hI h0 hd K' hK
            obtain ⟨xs, rfl, hC, hW⟩ := hI
            have e18 : xs 18 = (.pointer (some ⟨b, q * 7 + 4, none⟩)) := hC 18 (hd ⟨18, .data⟩ (by simp) rfl)
            have hK2 := Lib.hid hK
            have hC2 := Lib.hid hC
            obtain ⟨m9, hm9, hX9⟩ := CH.early (j := 4) (s := 24) hW h0 (by simp) rfl
            have c9 := hX9.load rpE_len (x := ⟨xid, xjd, xwo, xfa, xtm, xwt, xnt⟩) (hlo m9 hm9) (d := 4) (by decide) rfl
            clear hd hK hC
            go_simp
            clear h0
            exact hK2.out _ _ ⟨updV xs 19 (.int .i64 xtm), by simp [updV, e18], cond_set hC2.out (fun _ _ h => h) rfl, hW.keep (by decide) (by decide)⟩
          · intro listed a w' hs hI h0 hd K' hK
            obtain ⟨xs, rfl, hC, hW⟩ := hI
            have e19 : xs 19 = (.int .i64 xtm) := hC 19 (hd ⟨19, .data⟩ (by simp) rfl)
            have hK2 := Lib.hid hK
            have hC2 := Lib.hid hC
            clear hd hK hC h0
            go_simp
            exact hK2.out _ _ ⟨updV xs 20 (.slice (some ⟨w'.heap.size, 0, none⟩) 3 3), by simp [updV, e19], cond_set hC2.out (fun j v h => SatF.alloc _ _ _ h) ⟨w'.heap.size, rfl, heap_alloc_new w' _⟩, (CH.alloc hW (fun m w o h => RowX.alloc h o) _).keep (by decide) (by decide)⟩
          · intro listed a w' hs hI h0 hd K' hK
            obtain ⟨xs, rfl, hC, hW⟩ := hI
            have e15 : xs 15 = (.pointer (some ⟨g, 0, none⟩)) := hC 15 (hd ⟨15, .data⟩ (by simp) rfl)
            obtain ⟨z20, e20, hz20⟩ : ∃ z : Nat, xs 20 = .slice (some ⟨z, 0, none⟩) 3 3 ∧ w'.heap[z]? = some (.cells (ints [xtm, 0, -1]).toArray 3 (0, 0)) := hC 20 (hd ⟨20, .data⟩ (by simp) rfl)
            have hK2 := Lib.hid hK
            have hC2 := Lib.hid hC
            obtain ⟨hX9, hnx⟩ := CH.step (j := 3) hW rfl h0 (.inr ⟨14, rfl, hd ⟨14, .chain⟩ (by simp) rfl⟩) (fun p hp e => by simp only [List.mem_cons, List.not_mem_nil, or_false] at hp; rcases hp with rfl | rfl <;> first | exact absurd e (by decide)) (by decide)
            have s9 : St w' g zs (kk + 7) := hX9.st
            have r9 : RI 3 w' (some ⟨z20, 0, none⟩) 3 [xtm, 0, -1] := R1.of_lit hz20 rfl rfl (by decide)
            clear h0
            clear hd hK hC
            go_simp
            refine (pick_c g zs _ _ _ _ _ _ s9 (by omega) r9 (by decide)).mono ?_; rintro e w1 ⟨rfl, s10, g10⟩
            rw [ha21.out]
            exact hK2.out _ _ ⟨updV xs 21 (.int .i64 a21), by simp [updV, e15, e20], cond_set hC2.out (fun j v h => SatF.stream (s9.keep g10) (by decide) (by decide) _ _ h) rfl, hnx _ (hX9.call hglt s10 g10 rfl)⟩
          · intro listed a w' hs hI h0 hd K' hK
            obtain ⟨xs, rfl, hC, hW⟩ := hI
            have e0 : xs 0 = (.pointer (some ⟨b, q * 7, none⟩)) := hC 0 (hd ⟨0, .data⟩ (by simp) rfl)
            have hK2 := Lib.hid hK
            have hC2 := Lib.hid hC
            clear hd hK hC h0
            go_simp
            exact hK2.out _ _ ⟨updV xs 22 (.pointer (some ⟨b, q * 7, none⟩)), by simp [updV, e0], cond_set hC2.out (fun _ _ h => h) rfl, hW.keep (by decide) (by decide)⟩
          · intro listed a w' hs hI h0 hd K' hK
            obtain ⟨xs, rfl, hC, hW⟩ := hI
            have e22 : xs 22 = (.pointer (some ⟨b, q * 7, none⟩)) := hC 22 (hd ⟨22, .data⟩ (by simp) rfl)
            have hK2 := Lib.hid hK
            have hC2 := Lib.hid hC
            clear hd hK hC h0
            go_simp
            exact hK2.out _ _ ⟨updV xs 23 (.pointer (some ⟨b, q * 7, none⟩)), by simp [updV, e22], cond_set hC2.out (fun _ _ h => h) rfl, hW.keep (by decide) (by decide)⟩
          · intro listed a w' hs hI h0 hd K' hK
            obtain ⟨xs, rfl, hC, hW⟩ := hI
            have e10 : xs 10 = (.string a10) := hC 10 (hd ⟨10, .data⟩ (by simp) rfl)
            have e23 : xs 23 = (.pointer (some ⟨b, q * 7, none⟩)) := hC 23 (hd ⟨23, .data⟩ (by simp) rfl)
            have hK2 := Lib.hid hK
            have hC2 := Lib.hid hC
            obtain ⟨hX9, hnx⟩ := CH.step (j := 4) hW rfl h0 (.inr ⟨21, rfl, hd ⟨21, .chain⟩ (by simp) rfl⟩) (fun p hp e => by simp only [List.mem_cons, List.not_mem_nil, or_false] at hp; rcases hp with rfl | rfl <;> first | exact absurd e (by decide) | exact hd ⟨8, .phase⟩ (by simp) rfl | exact hd ⟨19, .phase⟩ (by simp) rfl) (by decide)
            have c9 := hX9.load rpE_len (x := ⟨xid, xjd, xwo, xfa, xtm, xwt, xnt⟩) hl0 (d := 0) (by decide) rfl
            have f9 := hX9.own.frozenAt (q * 7 + 0)
            obtain ⟨cs9, hcs9⟩ := hX9.blk
            have hS9 := Lib.hid (hX9.store rpE_len hglt (x := ⟨xid, xjd, xwo, xfa, xtm, xwt, xnt⟩) (y := ⟨a10, xjd, xwo, xfa, xtm, xwt, xnt⟩) (v := .string a10) hl0 (d := 0) (by decide) rfl rfl rfl)
            rw [Nat.add_zero] at c9 f9 hS9
            clear h0
            clear hd hK hC
            go_simp
            exact hK2.out _ _ ⟨updV xs 24 (undef), by simp [updV, e10, e23], cond_set hC2.out (fun j v h => SatF.set hcs9 (by decide) (by decide) _ _ h) trivial, hnx _ hS9.out⟩
          · intro listed a w' hs hI h0 hd K' hK
            obtain ⟨xs, rfl, hC, hW⟩ := hI
            have e1 : xs 1 = (.pointer (some ⟨b, q * 7, none⟩)) := hC 1 (hd ⟨1, .data⟩ (by simp) rfl)
            have hK2 := Lib.hid hK
            have hC2 := Lib.hid hC
            clear hd hK hC h0
            go_simp
            exact hK2.out _ _ ⟨updV xs 25 (.pointer (some ⟨b, q * 7, none⟩)), by simp [updV, e1], cond_set hC2.out (fun _ _ h => h) rfl, hW.keep (by decide) (by decide)⟩
          · intro listed a w' hs hI h0 hd K' hK
            obtain ⟨xs, rfl, hC, hW⟩ := hI
            have e25 : xs 25 = (.pointer (some ⟨b, q * 7, none⟩)) := hC 25 (hd ⟨25, .data⟩ (by simp) rfl)
            have hK2 := Lib.hid hK
            have hC2 := Lib.hid hC
            clear hd hK hC h0
            go_simp
            exact hK2.out _ _ ⟨updV xs 26 (.pointer (some ⟨b, q * 7 + 3, none⟩)), by simp [updV, e25], cond_set hC2.out (fun _ _ h => h) rfl, hW.keep (by decide) (by decide)⟩
          · intro listed a w' hs hI h0 hd K' hK
            obtain ⟨xs, rfl, hC, hW⟩ := hI
            have e12 : xs 12 = (.int .i64 a12) := hC 12 (hd ⟨12, .data⟩ (by simp) rfl)
            have e26 : xs 26 = (.pointer (some ⟨b, q * 7 + 3, none⟩)) := hC 26 (hd ⟨26, .data⟩ (by simp) rfl)
            have hK2 := Lib.hid hK
            have hC2 := Lib.hid hC
            obtain ⟨hX9, hnx⟩ := CH.step (j := 5) hW rfl h0 (.inr ⟨24, rfl, hd ⟨24, .chain⟩ (by simp) rfl⟩) (fun p hp e => by simp only [List.mem_cons, List.not_mem_nil, or_false] at hp; rcases hp with rfl | rfl <;> first | exact absurd e (by decide)) (by decide)
            have c9 := hX9.load rpE_len (x := ⟨a10, xjd, xwo, xfa, xtm, xwt, xnt⟩) hl1 (d := 3) (by decide) rfl
            have f9 := hX9.own.frozenAt (q * 7 + 3)
            obtain ⟨cs9, hcs9⟩ := hX9.blk
            have hS9 := Lib.hid (hX9.store rpE_len hglt (x := ⟨a10, xjd, xwo, xfa, xtm, xwt, xnt⟩) (y := ⟨a10, xjd, xwo, a12, xtm, xwt, xnt⟩) (v := .int .i64 a12) hl1 (d := 3) (by decide) rfl rfl rfl)
            clear h0
            clear hd hK hC
            go_simp
            exact hK2.out _ _ ⟨updV xs 27 (undef), by simp [updV, e12, e26], cond_set hC2.out (fun j v h => SatF.set hcs9 (by decide) (by decide) _ _ h) trivial, hnx _ hS9.out⟩
          · intro listed a w' hs hI h0 hd K' hK
            obtain ⟨xs, rfl, hC, hW⟩ := hI
            have e2 : xs 2 = (.pointer (some ⟨b, q * 7, none⟩)) := hC 2 (hd ⟨2, .data⟩ (by simp) rfl)
            have hK2 := Lib.hid hK
            have hC2 := Lib.hid hC
            clear hd hK hC h0
            go_simp
            exact hK2.out _ _ ⟨updV xs 28 (.pointer (some ⟨b, q * 7, none⟩)), by simp [updV, e2], cond_set hC2.out (fun _ _ h => h) rfl, hW.keep (by decide) (by decide)⟩
          · intro listed a w' hs hI h0 hd K' hK
            obtain ⟨xs, rfl, hC, hW⟩ := hI
            have e28 : xs 28 = (.pointer (some ⟨b, q * 7, none⟩)) := hC 28 (hd ⟨28, .data⟩ (by simp) rfl)
            have hK2 := Lib.hid hK
            have hC2 := Lib.hid hC
            clear hd hK hC h0
            go_simp
            exact hK2.out _ _ ⟨updV xs 29 (.pointer (some ⟨b, q * 7 + 5, none⟩)), by simp [updV, e28], cond_set hC2.out (fun _ _ h => h) rfl, hW.keep (by decide) (by decide)⟩
          · intro listed a w' hs hI h0 hd K' hK
            obtain ⟨xs, rfl, hC, hW⟩ := hI
            have e14 : xs 14 = (.int .i64 a14) := hC 14 (hd ⟨14, .data⟩ (by simp) rfl)
            have e29 : xs 29 = (.pointer (some ⟨b, q * 7 + 5, none⟩)) := hC 29 (hd ⟨29, .data⟩ (by simp) rfl)
            have hK2 := Lib.hid hK
            have hC2 := Lib.hid hC
            obtain ⟨hX9, hnx⟩ := CH.step (j := 6) hW rfl h0 (.inr ⟨27, rfl, hd ⟨27, .chain⟩ (by simp) rfl⟩) (fun p hp e => by simp only [List.mem_cons, List.not_mem_nil, or_false] at hp; rcases hp with rfl | rfl <;> first | exact absurd e (by decide)) (by decide)
            have c9 := hX9.load rpE_len (x := ⟨a10, xjd, xwo, a12, xtm, xwt, xnt⟩) hl2 (d := 5) (by decide) rfl
            have f9 := hX9.own.frozenAt (q * 7 + 5)
            obtain ⟨cs9, hcs9⟩ := hX9.blk
            have hS9 := Lib.hid (hX9.store rpE_len hglt (x := ⟨a10, xjd, xwo, a12, xtm, xwt, xnt⟩) (y := ⟨a10, xjd, xwo, a12, xtm, a14, xnt⟩) (v := .int .i64 a14) hl2 (d := 5) (by decide) rfl rfl rfl)
            clear h0
            clear hd hK hC
            go_simp
            exact hK2.out _ _ ⟨updV xs 30 (undef), by simp [updV, e14, e29], cond_set hC2.out (fun j v h => SatF.set hcs9 (by decide) (by decide) _ _ h) trivial, hnx _ hS9.out⟩
          · intro listed a w' hs hI h0 hd K' hK
            obtain ⟨xs, rfl, hC, hW⟩ := hI
            have e3 : xs 3 = (.pointer (some ⟨b, q * 7, none⟩)) := hC 3 (hd ⟨3, .data⟩ (by simp) rfl)
            have hK2 := Lib.hid hK
            have hC2 := Lib.hid hC
            clear hd hK hC h0
            go_simp
            exact hK2.out _ _ ⟨updV xs 31 (.pointer (some ⟨b, q * 7, none⟩)), by simp [updV, e3], cond_set hC2.out (fun _ _ h => h) rfl, hW.keep (by decide) (by decide)⟩
          · intro listed a w' hs hI h0 hd K' hK
            obtain ⟨xs, rfl, hC, hW⟩ := hI
            have e31 : xs 31 = (.pointer (some ⟨b, q * 7, none⟩)) := hC 31 (hd ⟨31, .data⟩ (by simp) rfl)
            have hK2 := Lib.hid hK
            have hC2 := Lib.hid hC
            clear hd hK hC h0
            go_simp
            exact hK2.out _ _ ⟨updV xs 32 (.pointer (some ⟨b, q * 7 + 4, none⟩)), by simp [updV, e31], cond_set hC2.out (fun _ _ h => h) rfl, hW.keep (by decide) (by decide)⟩
          · intro listed a w' hs hI h0 hd K' hK
            obtain ⟨xs, rfl, hC, hW⟩ := hI
            have e21 : xs 21 = (.int .i64 a21) := hC 21 (hd ⟨21, .data⟩ (by simp) rfl)
            have e32 : xs 32 = (.pointer (some ⟨b, q * 7 + 4, none⟩)) := hC 32 (hd ⟨32, .data⟩ (by simp) rfl)
            have hK2 := Lib.hid hK
            have hC2 := Lib.hid hC
            obtain ⟨hX9, hnx⟩ := CH.step (j := 7) hW rfl h0 (.inr ⟨30, rfl, hd ⟨30, .chain⟩ (by simp) rfl⟩) (fun p hp e => by simp only [List.mem_cons, List.not_mem_nil, or_false] at hp; rcases hp with rfl | rfl <;> first | exact absurd e (by decide)) (by decide)
            have c9 := hX9.load rpE_len (x := ⟨a10, xjd, xwo, a12, xtm, a14, xnt⟩) hl3 (d := 4) (by decide) rfl
            have f9 := hX9.own.frozenAt (q * 7 + 4)
            obtain ⟨cs9, hcs9⟩ := hX9.blk
            have hS9 := Lib.hid (hX9.store rpE_len hglt (x := ⟨a10, xjd, xwo, a12, xtm, a14, xnt⟩) (y := ⟨a10, xjd, xwo, a12, a21, a14, xnt⟩) (v := .int .i64 a21) hl3 (d := 4) (by decide) rfl rfl rfl)
            clear h0
            clear hd hK hC
            go_simp
            exact hK2.out _ _ ⟨updV xs 33 (undef), by simp [updV, e21, e32], cond_set hC2.out (fun j v h => SatF.set hcs9 (by decide) (by decide) _ _ h) trivial, hnx _ hS9.out⟩
        case he =>
          intro listed a w' hs hI hr
          obtain ⟨xs, rfl, hC, hW⟩ := hI
          have hl9 := all_listed hs hr ⟨rfl, rfl, rfl, rfl, rfl, rfl, rfl, rfl, rfl, rfl, rfl, rfl, rfl, rfl, rfl, rfl, rfl, rfl, rfl, rfl, rfl, rfl, rfl, rfl, rfl, rfl, rfl, rfl, rfl, rfl, rfl, rfl, rfl, rfl, trivial⟩ 33 (by simp)
          obtain ⟨m9, hm9, hX9⟩ := hW.fin (j := 7) rfl hl9
          clear hW hC hs hr hl9
          obtain ⟨m8, rfl⟩ : ∃ m8, m9 = m8 + 8 := ⟨m9 - 8, by omega⟩
          have s9 : St w' g zs (kk + 8) := hX9.st
          have o9 := hX9.own
          rw [show rpLf acc q ⟨xid, xjd, xwo, xfa, xtm, xwt, xnt⟩ a10 a12 a14 a21 (m8 + 8) = acc.set q ⟨a10, xjd, xwo, a12, a21, a14, xnt⟩ by simp only [rpLf, List.set_set]] at o9
          have g9 := hX9.out hgr8 (Nat.le_refl _)
          clear hX9
          have hRV : RV = (acc.set q ⟨a10, xjd, xwo, a12, a21, a14, xnt⟩, kk + 8) := hV3.out
          subst hRV
          go_wp2
          go_ret
          exact ⟨_, c, rfl, o9, by rw [List.length_set]; exact hla', s9, by dsimp only; omega, g9⟩
/-- what RightReports hands back, told -/
def RetRRpF (w : World) (g : Nat) (zs : Zs) (k M : Nat) (RV : List Rp × Nat) (e : Ending) (w' : World) : Prop := ∃ (A : Option Addr) (n c : Nat), e = .returned (.slice A n c) ∧ w'.ownsRow w.heap.size 96 7 (.slice A n c) n (RV.1.flatMap rpE) ∧ RV.1.length = n ∧ rpErr RV.1 = 0 ∧ n ≤ M ∧ St w' g zs RV.2 ∧ RV.2 ≤ k + 6 * (7 * M + 20) ∧ w.grownBy w' (some g)
set_option maxHeartbeats 1600000 in
set_option maxRecDepth 100000 in
theorem rightReportsF_c (g : Nat) (zs : Zs) (k M : Nat) (w w0 : World) (h : St w g zs k) (hk : k + 10000 ≤ 1099511627776) (hM : M ≤ 100) (hT : Tb w0) (hb0 : Below w0.heap.size w0 w) (hg0 : w0.heap.size ≤ g) :
    Calls Tryz.prog 39 #[.pointer (some ⟨g, 0, none⟩), .int .i64 M] w (RetRRpF w g zs k M (rightReportsV zs M 6 k)) := by
  have hglt := h.lt
  have hSd := Lib.hid (fun kk wx (hs : St wx g zs kk) (hg : w.grownBy wx (some g)) (hk : kk + 2000 ≤ 1099511627776) => reportsF_c g zs kk M wx w0 hs hk hM hT (hb0.trans (grown_below hg hg0 hb0.size)) hg0)
  clear hT hb0 hg0
  have hRs := Lib.hid (fun t kk => show rightReportsV zs M (t + 1) kk = if rpErr (reportsV zs kk M).1 = 0 then reportsV zs kk M else rightReportsV zs M t (reportsV zs kk M).2 from rfl)
  have hR0 := Lib.hid (fun kk => show rightReportsV zs M 0 kk = ([], kk) from rfl)
  obtain ⟨RV, hRV⟩ : ∃ x, rightReportsV zs M 6 k = x := ⟨_, rfl⟩
  rw [hRV]
  have hRS := Lib.hid hRV
  clear hRV
  generalize rightReportsV zs M = RR at *
  go_enter Tryz.func39, Tryz.ntmps39
  go_wp2_with fail
  go_loopw [6] (fun i wr => ∃ j kk : Nat, j ≤ 6 ∧ i = .int .i64 j ∧ St wr g zs kk ∧ kk ≤ k + j * (7 * M + 20) ∧ Hid (RR (6 - j) kk = RV) ∧ w.grownBy wr (some g)) (fun i _ => 6 - (intOf i).toNat)
  case atStart => exact ⟨0, k, by omega, rfl, h, by omega, hRS, grown_refl _ _⟩
  case round =>
    clear h
    obtain ⟨j, kk, hj, rfl, hst, hkk, hG, hgr⟩ := hrel
    by_cases hlt : j < 6
    · have hji : (j : Int) < 6 := by omega
      have hmul : (j + 1) * (7 * M + 20) = j * (7 * M + 20) + (7 * M + 20) := Nat.succ_mul _ _
      have hmul2 : (j + 1) * (7 * M + 20) ≤ 6 * (7 * M + 20) := Nat.mul_le_mul_right _ (by omega)
      go_wp2_with fail
      refine (hSd.out kk _ hst hgr (by omega)).mono ?_; rintro e w1 ⟨A, c, rfl, ho, hl, s1, hk2, g1⟩
      have hG2 := Lib.hid (show (if rpErr (reportsV zs kk M).1 = 0 then reportsV zs kk M else RR (6 - (j + 1)) (reportsV zs kk M).2) = RV by rw [← hG.out, show 6 - j = (6 - (j + 1)) + 1 by omega, hRs.out])
      generalize reportsV zs kk M = RL at *
      obtain ⟨l, k2⟩ := RL
      dsimp only at *
      have hgr1 := grown_trans hgr g1
      have hR : RRp w1 A M l := RN.of_own rpE_len ho hl (by omega)
      have ho1 := own_mono ho hgr.size
      have hF := Lib.hid (reportsFault_c A M c l w1 hR)
      clear hst hgr g1 ho
      go_wp2_with fail
      refine hF.out.mono ?_; rintro e w2 ⟨rfl, B2⟩
      have s2 := s1.below B2
      have ho2 := own_below ho1 B2
      have hgr2 := grown_trans hgr1 (grown_of_below B2)
      clear s1 hR hgr1 hF B2 ho1
      by_cases h0 : rpErr l = 0
      · have h0' := Lib.hid h0
        have hd : (rpErr l == 0) = true := by simpa using h0
        clear h0
        generalize rpErr l = E at hd ⊢
        go_wp2
        go_ret
        have hRV : (l, k2) = RV := by have h1 := hG2.out; rw [if_pos h0'.out] at h1; exact h1
        subst hRV
        exact ⟨A, M, c, rfl, ho2, hl, h0'.out, by omega, s2, by dsimp only; omega, hgr2⟩
      · have hd : (rpErr l == 0) = false := beq_eq_false_iff_ne.2 h0
        have hG3 := Lib.hid (show RR (6 - (j + 1)) k2 = RV by have h1 := hG2.out; rw [if_neg h0] at h1; exact h1)
        clear hG2
        clear h0
        generalize rpErr l = E at hd ⊢
        go_wp2
        go_roundw
        case rel => exact ⟨j + 1, k2, by omega, by go_num, s2, by omega, hG3, hgr2⟩
        case measure => simp [intOf]; omega
    · obtain rfl : j = 6 := by omega
      go_wp2
      go_ret
      have hRV : ([], kk) = RV := by have h1 := hG.out; rw [Nat.sub_self, hR0.out] at h1; exact h1
      subst hRV
      exact ⟨none, 0, 0, rfl, World.ownsRow_nil _ _ _ _, rfl, rfl, by omega, hst, by dsimp only; omega, hgr⟩
end Go.Proofs.YtklggnglaeagpaaGreatDoor
