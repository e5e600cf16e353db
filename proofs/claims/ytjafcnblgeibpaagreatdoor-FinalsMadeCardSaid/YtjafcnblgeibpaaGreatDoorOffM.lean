/- (*Stream).OffSeeds: new times of a swim-off. -/
import Derived.Test.YtjafcnblgeibpaaGreatDoorOffC
import Derived.Deep.DeepCutAuto
namespace Go.Proofs.YtjafcnblgeibpaaGreatDoor
open Go.RowKit Go.Shelf Go.Lib Go.Sort
set_option linter.unusedVariables false

theorem nmsOf_len (L : List Sd) (g : Nat × Nat) : (nmsOf L g).length ≤ L.length := by
  unfold nmsOf
  rw [List.length_map, List.length_take, List.length_drop]
  omega
theorem off_lens {f : Fl} {l : List Sd} {L : List Nx} (h : L.map Nx.ids = offV f (finL l)) : L.length ≤ l.length ∧ ∀ x ∈ L, x.ids.length ≤ l.length := by
  have hF := finL_len l
  constructor
  · have h1 := congrArg List.length h
    rw [List.length_map] at h1
    unfold offV at h1
    rw [List.length_map] at h1
    have := grpV_len f (finL l)
    omega
  · intro x hx
    have h1 : x.ids ∈ offV f (finL l) := by rw [← h]; exact List.mem_map_of_mem hx
    unfold offV at h1
    obtain ⟨g, _, hg⟩ := List.mem_map.1 h1
    rw [← hg]
    exact Nat.le_trans (nmsOf_len _ _) hF
/-- the row under way -/
structure OfK (w : World) (g : Nat) (zs : List Int) (u : Value) (m : Nat) (off : List Sd) (kk : Nat) (wx : World) : Prop where
  o : wx.ownsRow w.heap.size 86 2 u m (off.flatMap sdE)
  st : St wx g zs kk
  gr : w.grownBy wx (some g)
  gl : g < w.heap.size
theorem OfK.app {w wx w' : World} {g : Nat} {zs : List Int} {u v' : Value} {m : Nat} {off : List Sd} {kk : Nat} {x : Sd} (h : OfK w g zs u m off kk wx) (ho : w'.ownsRow w.heap.size 86 2 v' (m + 1) (off.flatMap sdE ++ sdE x)) (hg : wx.grownBy w' u.ownBlock) : OfK w g zs v' (m + 1) (off ++ [x]) kk w' := by
  have hb : ∀ i, u.ownBlock = some i → w.heap.size ≤ i := own_row_lt h.o
  have hgl := h.gl
  exact ⟨by rw [List.flatMap_append, List.flatMap_singleton]; exact ho, h.st.grown hg (fun i hi => by have := hb i hi; omega), grown_own h.gr hg (fun i hi => hb i hi), h.gl⟩
theorem OfK.stream {w wx w' : World} {g : Nat} {zs : List Int} {u : Value} {m : Nat} {off : List Sd} {kk k1 : Nat} (h : OfK w g zs u m off kk wx) (s : St w' g zs k1) (hg : wx.grownBy w' (some g)) : OfK w g zs u m off k1 w' := ⟨own_keep h.o h.gl hg, s, grown_trans h.gr hg, h.gl⟩
def RetOs (w : World) (g : Nat) (zs : List Int) (k : Nat) (e : Ending) (w' : World) : Prop := ∃ (A' : Option Addr) (m c' : Nat) (off : List Sd) (k' : Nat), e = .returned (.slice A' m c') ∧ w'.ownsRow w.heap.size 86 2 (.slice A' m c') m (off.flatMap sdE) ∧ m ≤ 400 ∧ St w' g zs k' ∧ k' ≤ k + 800 ∧ w.grownBy w' (some g)
set_option maxHeartbeats 6400000 in
set_option maxRecDepth 100000 in
theorem offSeeds_c (f : Fl) (A : Option Addr) (n c : Nat) (l : List Sd) (g : Nat) (zs : List Int) (k : Nat) (w : World) (h : RSd w A n l) (hs : St w g zs k) (hn : n ≤ 19) (hk : k + 1000 ≤ 1099511627776) :
    Calls Tryz.prog 12 #[.pointer (some ⟨g, 0, none⟩), f.val, .slice A n c] w (RetOs w g zs k) := by
  have hFF := Lib.hid (fun W => finalFault_c f W)
  have hSF := Lib.hid (fun W h => seedsFault_c A n c l W h)
  have hSO := Lib.hid (fun W (h1 : finErr f = 0) h (h0 : seedErr l = 0) => swimOffOf_c f (finErr_ok h1) A n c l W h hn h0)
  have hLe := Lib.hid (fun L hL => off_lens (f := f) (l := l) (L := L) hL)
  have hln := Lib.hid h.len
  have hR := Lib.hid (fun W B => h.below (w' := W) B)
  have hB0 := below_new w (.cells f.cells 27)
  have hF0 : FinB w.heap.size f (w.alloc (.cells f.cells 27)) := heap_alloc_new w _
  have hFk := Lib.hid (fun a v (h : FinB w.heap.size f a) B => FinB.keep a v h B)
  have hFa := Lib.hid (fun v (h : FinB w.heap.size f v) => h.at_)
  have hgl := hs.lt
  generalize offV f (finL l) = OV at *
  generalize finErr f = FE at *
  generalize seedErr l = SE at *
  obtain ⟨sz, mn, rs⟩ := f
  dsimp only [Fl.val, Fl.cells] at *
  generalize FinB w.heap.size ⟨sz, mn, rs⟩ = FB at *
  clear h
  obtain ⟨y0, y1, y2⟩ := hFa.out _ hF0
  go_enter Tryz.func12, Tryz.ntmps12
  go_upto_region 2 with (fail)
  go_cut [19] (fun s19 wx => ∃ q : Bool, s19 = .bool q ∧ (q = true → FE = 0 ∧ SE = 0) ∧ Below w.heap.size w wx ∧ FB wx)
  case first =>
    by_cases h1 : FE = 0
    · subst h1
      go_wp2_with fail
      refine (hFF.out _).mono ?_; rintro e w1 ⟨rfl, B1⟩
      have hB1 := below_next hB0 B1
      have hF1 := hFk.out _ _ hF0 B1
      clear B1 hB0 hF0 y0 y1 y2
      go_wp2_with fail
      refine (hSF.out _ (hR.out _ hB1)).mono ?_; rintro e w2 ⟨rfl, B2⟩
      have hB2 := below_next hB1 B2
      have hF2 := hFk.out _ _ hF1 B2
      clear B2 hB1 hF1
      by_cases h2 : SE = 0
      · subst h2
        go_wp2
        go_meet
        case rel => exact ⟨true, rfl, by simp, hB2, hF2⟩
      · have hb : (SE == 0) = false := by simpa using h2
        clear h2
        go_wp2
        go_meet
        case rel => exact ⟨false, rfl, (fun h => by cases h), hB2, hF2⟩
    · have hb : (FE == 0) = false := by simpa using h1
      clear h1
      go_wp2_with fail
      refine (hFF.out _).mono ?_; rintro e w1 ⟨rfl, B1⟩
      have hB1 := below_next hB0 B1
      have hF1 := hFk.out _ _ hF0 B1
      clear B1 hB0 hF0 y0 y1 y2
      go_wp2
      go_meet
      case rel => exact ⟨false, rfl, (fun h => by cases h), hB1, hF1⟩
  case rest =>
    clear hB0 hF0 y0 y1 y2 hFF hSF
    obtain ⟨q, rfl, hq, hB, hF⟩ := hcut
    rename World => wa
    have hsa := hs.below hB
    have hgr := grown_of_below (row := some g) hB
    go_upto_if 19 with (fail)
    go_cut [7, 9, 11] (fun s7 _ _ wx => ∃ (m : Nat) (off : List Sd) (kk : Nat), m ≤ 380 ∧ kk ≤ k + 760 ∧ OfK w g zs s7 m off kk wx)
    case first =>
      cases q
      · clear hq
        go_wp2
        go_meet
        case rel => exact ⟨0, [], k, by omega, by omega, World.ownsRow_nil _ _ _ _, hsa, hgr, hgl⟩
      · obtain ⟨h1, h2⟩ := hq rfl
        clear hq
        have hr := hR.out _ hB
        have hSO' := Lib.hid (hSO.out wa h1 hr h2)
        obtain ⟨y0, y1, y2⟩ := hFa.out _ hF
        clear hSO h1 h2
        go_wp2_with fail
        refine hSO'.out.mono ?_; rintro e w3 ⟨u, rfl, A3, c3, L, rfl, hL, _, hLi, B3⟩
        have hB3 := below_next hB B3
        obtain ⟨hl1, hl2⟩ := hLe.out L hLi
        rw [hln.out] at hl1 hl2
        have hl19 : L.length ≤ 19 := by omega
        have hx19 := Lib.hid (fun x hx => Nat.le_trans (hl2 x hx) hn)
        have s3 := hsa.below B3
        have hgl3 : g < w3.heap.size := s3.lt
        have gr3 := grown_trans hgr (grown_of_below (row := some g) B3)
        have hz3 := hB3.size
        have hRL := Lib.hid (fun W (hg : w3.grownBy W (some g)) => show RNx W A3 L.length L from ⟨hL.1.keep (T := 25) (by decide) (s3.keep hg), fun x hx => ⟨(hL.2 x hx).1.keep (T := 25) (by decide) (s3.keep hg), (hL.2 x hx).2⟩⟩)
        have K0 : OfK w3 g zs (.slice none 0 0) 0 [] k w3 := ⟨World.ownsRow_nil _ _ _ _, s3, grown_refl _ _, hgl3⟩
        clear hSO' hL hLi hl1 hl2 s3 hsa hgr hr B3 y0 y1 y2 hF hB
        go_wp2_with fail
        go_loopw [7, 9, 11, 24] (fun u _ _ iv wr => ∃ (j m kk : Nat) (off : List Sd), j ≤ L.length ∧ iv = .int .i64 j ∧ m ≤ 20 * j ∧ kk ≤ k + 40 * j ∧ OfK w3 g zs u m off kk wr) (fun _ _ _ iv _ => L.length - (intOf iv).toNat)
        case atStart => exact ⟨0, 0, k, [], Nat.zero_le _, rfl, by omega, by omega, K0⟩
        case round =>
          clear K0
          rename World => wr
          obtain ⟨j, m, kk, off, hj, rfl, hm, hkk, K⟩ := hrel
          by_cases hlt : j < L.length
          · obtain ⟨b, of, x, rfl, hbl, hx, c0, rx, _⟩ := RNx_at (hRL.out _ K.gr) hlt
            have hxl := hx19.out x (List.mem_of_getElem? hx)
            have hrx := Lib.hid (fun W (hg : w3.grownBy W (some g)) => show RS 9 W x.A x.ids.length x.ids from ((hRL.out W hg).2 x (List.mem_of_getElem? hx)).1)
            obtain ⟨A9, c9, ids⟩ := x
            dsimp only at *
            clear hx rx
            obtain ⟨q, hq⟩ : ∃ q, ids.length = q := ⟨_, rfl⟩
            rw [hq] at hrx c0 hxl
            clear hq
            go_wp2_with fail
            go_loopw [7, 11, 30] (fun u _ iv wx => ∃ (i m' k' : Nat) (off : List Sd), i ≤ q ∧ iv = .int .i64 i ∧ m' ≤ m + i ∧ k' ≤ kk + 2 * i ∧ OfK w3 g zs u m' off k' wx) (fun _ _ iv _ => q - (intOf iv).toNat)
            case atStart => exact ⟨0, m, kk, off, Nat.zero_le _, rfl, by omega, by omega, K⟩
            case round =>
              clear K c0
              rename World => wx
              obtain ⟨i, m', k', off', hi, rfl, hm', hk', K⟩ := hrel
              by_cases hli : i < q
              · obtain ⟨b2, of2, x2, rfl, _, hx2, d0⟩ := (hrx.out _ K.gr).at_ hli
                obtain ⟨A6, c6, hu⟩ := own_shape K.o
                subst hu
                clear hx2
                go_wp2_with fail
                refine (flipE_c _ zs _ 5 _ K.st (by omega) (by omega) (by omega)).mono ?_; rintro e x3 ⟨fl, rfl, t0, q0⟩
                replace K := K.stream t0 q0
                clear t0 q0 d0
                cases fl
                · go_wp2_with fail
                  refine (pickB_c _ zs _ [0, 5990, 6000, 6020, 6030] 0 6030 5 5 x3.heap.size #[.int .i64 0, .int .i64 5990, .int .i64 6000, .int .i64 6020, .int .i64 6030] x3 K.st (by omega) rfl rfl rfl (by decide) (by decide) (by simp)).mono ?_; rintro e x4 ⟨tv, rfl, v0, v1, t2, q2⟩
                  replace K := K.stream t2 q2
                  clear t2 q2
                  have hz := K.gr.size
                  go_wp2_with (at_builtin; refine wpList_app rfl (.tmp 37) (.tmp 43) 29 rfl Tryz.underlying29 info_seed rfl (by omega) (by omega) K.o rfl rfl (by first | rfl | (simp; done)) rfl (by simp [Value.oneCell']) (by omega) hz ?_; intro v8 w8 hown8 hg8)
                  have K8 := K.app (x := ⟨x2, tv⟩) hown8 hg8
                  clear hown8 hg8 K hz
                  go_wp2
                  go_roundw
                  case rel => exact ⟨i + 1, m' + 1, k' + 1 + 1, _, by omega, by go_num, by omega, by omega, K8⟩
                  case measure => simp [intOf]; omega
                · go_wp2
                  go_roundw
                  case rel => exact ⟨i + 1, m', k' + 1, off', by omega, by go_num, by omega, by omega, K⟩
                  case measure => simp [intOf]; omega
              · obtain rfl : i = q := by omega
                go_wp2
                go_roundw
                case rel => exact ⟨j + 1, m', k', off', by omega, by go_num, by omega, by omega, K⟩
                case measure => simp [intOf]; omega
          · obtain rfl : j = L.length := by omega
            go_wp2
            go_meet
            case rel => exact ⟨m, off, kk, by omega, by omega, own_mono K.o hz3, K.st, grown_trans gr3 K.gr, hgl⟩
    case rest =>
      clear hsa hgr hF hB hSO hLe hq
      obtain ⟨m, off, kk, hm, hkk, K⟩ := hcut
      rename World => wb
      obtain ⟨A5, c5, hu⟩ := own_shape K.o
      subst hu
      go_wp2_with fail
      refine (flipE_c _ zs _ 15 _ K.st (by omega) (by omega) (by omega)).mono ?_; rintro e x3 ⟨fl, rfl, t0, q0⟩
      replace K := K.stream t0 q0
      clear t0 q0
      cases fl
      · go_wp2
        go_ret
        exact ⟨A5, m, c5, off, kk + 1, rfl, K.o, by omega, K.st, by omega, K.gr⟩
      · go_wp2_with fail
        refine (someE_c _ zs _ [⟨#[122, 122]⟩, ⟨#[115, 48]⟩, ⟨#[]⟩] 3 3 x3.heap.size #[.string ⟨#[122, 122]⟩, .string ⟨#[115, 48]⟩, .string ⟨#[]⟩] x3 K.st (by omega) rfl rfl rfl (by decide) (by decide)).mono ?_; rintro e x4 ⟨who, rfl, hwm, t1, q1⟩
        replace K := K.stream t1 q1
        clear t1 q1 hwm
        have hz := K.gr.size
        go_wp2_with (at_builtin; refine wpList_app rfl (.tmp 49) (.tmp 54) 29 rfl Tryz.underlying29 info_seed rfl (by omega) (by omega) K.o rfl rfl (by first | rfl | (simp; done)) rfl (by simp [Value.oneCell']) (by omega) hz ?_; intro v8 w8 hown8 hg8)
        have K8 := K.app (x := ⟨who, 5⟩) hown8 hg8
        clear hown8 hg8 K hz
        obtain ⟨A6, c6, hu⟩ := own_shape K8.o
        subst hu
        go_wp2
        go_ret
        exact ⟨A6, m + 1, c6, _, kk + 1 + 1, rfl, K8.o, by omega, K8.st, by omega, K8.gr⟩
end Go.Proofs.YtjafcnblgeibpaaGreatDoor
