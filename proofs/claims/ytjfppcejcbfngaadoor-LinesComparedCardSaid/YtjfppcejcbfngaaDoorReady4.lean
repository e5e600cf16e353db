/- What the statements of tumbkeep end with: judge.Rank of one time. -/
import Derived.Test.YtjfppcejcbfngaaDoorReady3
namespace Go.Proofs.YtjfppcejcbfngaaDoor
open Go.RowKit
open Go.Maps (Keyed string_keyed)
open Go.WideMaps (keyOf_string_mk)
set_option linter.unusedVariables false

theorem own_someN {w : World} {base : Nat} {e : TypeId} {size : Nat} {A : Option Addr} {n c : Nat} {xs : List Value} (h : w.ownsRow base e size (.slice A n c) n xs) (hn : 0 < n) : ∃ b, A = some ⟨b, 0, none⟩ ∧ base ≤ b := by
  rcases h.2 with ⟨e1, rfl⟩ | ⟨g, cap, cur, hv, hb, hg, hnc, hcm, hcs, ht⟩
  · omega
  · injection hv with e1 e2 e3; exact ⟨g, e1, hb⟩
theorem own_capN {w : World} {base : Nat} {e : TypeId} {size : Nat} {A : Option Addr} {n c : Nat} {xs : List Value} (h : w.ownsRow base e size (.slice A n c) n xs) : n ≤ c := by
  rcases h.2 with ⟨e1, rfl⟩ | ⟨g, cap, cur, hv, hb, hg, hnc, hcm, hcs, ht⟩
  · omega
  · injection hv with e1 e2 e3; omega
theorem info_ranked : (Tryd.prog.info? 157).map (fun i => (i.zero, i.size, i.bytes)) = some (some (.agg #[.string ⟨#[]⟩, .int .i64 0, .int .i64 0, .int .i64 0]), 4, 40) := by kernel_rfl
set_option maxRecDepth 100000 in
set_option maxHeartbeats 1600000 in
theorem rank1_c (b : Nat) (w : World) (h : w.heap[b]? = some (.cells #[.string ⟨#[97]⟩, .int .i64 6000] 153 (0, 0))) :
    Calls Tryd.prog 156 #[.slice (some ⟨b, 0, none⟩) 1 1, .slice none 0 0, .int .i64 1] w fun e w' => ∃ A c, e = .returned (.tuple #[.slice A 1 c, .int .i64 0]) ∧ w'.ownsRow w.heap.size 157 4 (.slice A 1 c) 1 [.string ⟨#[97]⟩, .int .i64 1, .int .i64 6000, .int .i64 0] ∧ Below w.heap.size w w' := by
  have hmm := @run_makeMap Tryd.prog
  go_enter Tryd.func156, Tryd.ntmps156
  go_wp2_with fail
  refine (seed1_c b _ (blk_alloc h _)).mono ?_; rintro e w1 ⟨rfl, B1⟩
  have h1 := blk_below (blk_alloc h _) B1
  have hB1 := below_box B1
  go_wp2_with fail
  refine (verd0_c _).mono ?_; rintro e w' ⟨rfl, rfl⟩
  go_wp2
  refine wp_loop_rounds 1 ?_
  rw [rounds_succ]
  go_wp2
  refine wp_loop_rounds 2 ?_
  rw [rounds_succ]
  have hs1 := blk_alloc h1 (.map #[] 0)
  have hc1 := (blk_facts hs1).1
  have hlt := lt_of_heap h1
  obtain ⟨v, hrun, hat⟩ := mi_lookup ((mi_new w1).alloc (.cells #[.string ⟨#[97]⟩, .int .i64 6000] 153)) ⟨#[97]⟩ (by unfold maxLen; decide)
  rw [atKey_nil] at hat
  obtain rfl : 0 = v := by injection hat with e; injection e
  clear hat h
  have hnil := World.ownsRow_nil (((w1.alloc (.map #[] 0)).alloc (.cells #[.string ⟨#[97]⟩, .int .i64 6000] 153)).alloc (.cells #[.string ⟨#[97]⟩, .int .i64 0, .int .i64 6000, .int .i64 0] 157)) w.heap.size 157 4
  have hB3 : Below w.heap.size w (((w1.alloc (.map #[] 0)).alloc (.cells #[.string ⟨#[97]⟩, .int .i64 6000] 153)).alloc (.cells #[.string ⟨#[97]⟩, .int .i64 0, .int .i64 6000, .int .i64 0] 157)) := by
    have hz := hB1.size
    exact ((hB1.alloc hz _).alloc (by simp; omega) _).alloc (by simp; omega) _
  have hz3 := hB3.size
  go_wp2_with (at_builtin; refine wpList_app rfl (.tmp 65) (.tmp 67) 149 rfl Tryd.underlying149 info_ranked rfl (by omega) (by omega) hnil rfl rfl (by simp) rfl (by simp [Value.oneCell']) (by omega) hz3 ?_; intro v4 w4 hown4 hg4; have hB4 := below_own hB3 hnil hg4 hz3 (Nat.le_refl _); obtain ⟨A4, c4, rfl⟩ := own_shape hown4)
  rw [rounds_succ]
  go_wp2_with fail
  refine (sort1_c _ _ _ _).mono ?_; rintro e w' ⟨rfl, rfl⟩
  obtain ⟨g, rfl, hgb⟩ := own_someN hown4 (by omega)
  have hca : ∀ j, j < 4 → w4.cell? ⟨g, j, none⟩ = (#[.string ⟨#[97]⟩, .int .i64 0, .int .i64 6000, .int .i64 0] : Array Value).toList[j]? := fun j hj => hown4.cellAt j (by omega)
  have c1 : w4.cell? ⟨g, 1, none⟩ = some (.int .i64 0) := by rw [hca 1 (by omega)]; rfl
  have f1 := hown4.frozenAt 1
  have hcap : 1 ≤ c4 := own_capN hown4
  have hst := (hown4.stored 1 (.int .i64 1)).1
  have hB5 := hB4.setCell (p := ⟨g, 1, none⟩) hgb (.int .i64 1)
  have hst' := Lib.hid hst
  have hB5' := Lib.hid hB5
  clear hown4 hca hst hB5 hrun hnil hB3 hz3 hs1 hc1 h1
  go_wp2
  refine wp_loop_rounds 2 ?_
  rw [rounds_succ]
  go_wp2
  go_quiet (fail)
  go_wp2
  rw [rounds_succ]
  go_wp2
  go_ret2
  exact ⟨_, c4, rfl, hst'.out, below_drewN hB5'.out _⟩
theorem rankA_c (b : Nat) (w : World) (h : w.heap[b]? = some (.cells #[.string ⟨#[97]⟩, .int .i64 6000] 153 (0, 0))) :
    Calls Tryd.prog 127 #[.slice (some ⟨b, 0, none⟩) 1 1, .slice none 0 0] w fun e w' => ∃ A c, e = .returned (.tuple #[.slice A 1 c, .int .i64 0]) ∧ w'.ownsRow w.heap.size 157 4 (.slice A 1 c) 1 [.string ⟨#[97]⟩, .int .i64 1, .int .i64 6000, .int .i64 0] ∧ Below w.heap.size w w' := by
  go_enter Tryd.func127, Tryd.ntmps127
  go_wp2_with fail
  refine (rank1_c b _ h).mono ?_; rintro e w1 ⟨A, c, rfl, hown, B1⟩
  go_wp2
  go_ret2
  exact ⟨A, c, rfl, hown, B1⟩
end Go.Proofs.YtjfppcejcbfngaaDoor
