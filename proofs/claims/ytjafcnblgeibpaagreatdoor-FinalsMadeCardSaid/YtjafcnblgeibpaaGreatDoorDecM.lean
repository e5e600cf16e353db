/- The order of a swim-off: heat.Decided's comparison, a group sorted anew. -/
import Derived.Test.YtjafcnblgeibpaaGreatDoorSortM
import Derived.Test.YtjafcnblgeibpaaGreatDoorGrpS
import Derived.Test.YtjafcnblgeibpaaGreatDoorMovedM
namespace Go.Proofs.YtjafcnblgeibpaaGreatDoor
open Go.RowKit Go.Shelf Go.Lib Go.Sort
set_option linter.unusedVariables false

/-- the order of new times; those without one are last -/
def tmCf (a b : Int) : Int := if a = 0 then (if b = 0 then 0 else 1) else if b = 0 then -1 else Lib.compareInt a b
def MapT (D : DataW Unit) (T : ByteArray → Int) : Prop := ∀ s : ByteArray, D.atKey (.string s.data.toList) (.lit (.int .i64 0)) = .lit (.int .i64 (T s))
set_option maxRecDepth 100000 in
theorem dcC_c (p1 bm q : Nat) (D : DataW Unit) (T : ByteArray → Int) (x y : Sd) (W : World) (h1 : W.heap[p1]? = some (.cells #[.map (some bm)] 127 (0, 0))) (hm : MI W bm q D) (hT : MapT D T) (hx : x.who.size ≤ 40) (hy : y.who.size ≤ 40) :
    Calls Tryz.prog 91 (#[.agg (sdE x).toArray, .agg (sdE y).toArray] ++ #[.pointer (some ⟨p1, 0, none⟩)]) W fun e w' => e = .returned (.int .i64 (tmCf (T x.who) (T y.who))) ∧ Below W.heap.size W w' ∧ W.drawn ≤ w'.drawn := by
  obtain ⟨xw, xt⟩ := x
  obtain ⟨yw, yt⟩ := y
  dsimp only [sdE] at *
  have hbx := blk_alloc (heap_alloc_new W (.cells #[.string xw, .int .i64 xt] 86)) (.cells #[.string yw, .int .i64 yt] 86)
  have hby := heap_alloc_new (W.alloc (.cells #[.string xw, .int .i64 xt] 86)) (.cells #[.string yw, .int .i64 yt] 86)
  rw [alloc_size] at hby
  have hB2 := (below_new W (.cells #[.string xw, .int .i64 xt] 86)).trans ((below_new (W.alloc (.cells #[.string xw, .int .i64 xt] 86)) (.cells #[.string yw, .int .i64 yt] 86)).mono (by simp))
  have hD2 : ((W.alloc (.cells #[.string xw, .int .i64 xt] 86)).alloc (.cells #[.string yw, .int .i64 yt] 86)).drawn = W.drawn := rfl
  have hm2 : MI ((W.alloc (.cells #[.string xw, .int .i64 xt] 86)).alloc (.cells #[.string yw, .int .i64 yt] 86)) bm q D := hm.kept (row := none) (grown_of_below hB2) (by simp)
  have hp2 := blk_below h1 hB2
  have a0 := (blk_facts hp2).1 0
  have z9 := (blk_facts hbx).1 0
  have z10 := (blk_facts hby).1 0
  obtain ⟨tx, r1, d1⟩ := mi_lookup hm2 xw (by unfold maxLen; omega)
  obtain ⟨ty, r2, d2⟩ := mi_lookup hm2 yw (by unfold maxLen; omega)
  rw [hT xw] at d1
  rw [hT yw] at d2
  have e1 : T xw = tx := by injection d1 with e; injection e
  have e2 : T yw = ty := by injection d2 with e; injection e
  rw [e1, e2]
  have hV := Lib.hid (show tmCf tx ty = if tx = 0 then (if ty = 0 then 0 else 1) else if ty = 0 then -1 else Lib.compareInt tx ty from rfl)
  have hC := Lib.hid (fun W => compareTimes_c tx ty W)
  rw [← hV.out] at hC
  generalize tmCf tx ty = V at *
  clear hbx hby hp2 d1 d2 e1 e2 hT hm hm2 h1 hV
  go_enter Tryz.func91, Tryz.ntmps91
  go_wp2_with fail
  generalize (W.alloc (.cells #[.string xw, .int .i64 xt] 86)).alloc (.cells #[.string yw, .int .i64 yt] 86) = w5 at *
  refine (hC.out _).mono ?_; rintro e w' ⟨rfl, rfl⟩
  go_wp2
  go_ret
  exact ⟨rfl, hB2, by rw [hD2]; exact Nat.le_refl _⟩
theorem sub3 {p : Sd → Prop} {P S Q : List Sd} (h : ∀ x ∈ P ++ (S ++ Q), p x) : ∃ P' S' Q' : List { x : Sd // p x }, P'.map Subtype.val = P ∧ S'.map Subtype.val = S ∧ Q'.map Subtype.val = Q := by
  obtain ⟨P', hP⟩ := sub_list (p := p) P (fun x hx => h x (List.mem_append_left _ hx))
  obtain ⟨S', hS⟩ := sub_list (p := p) S (fun x hx => h x (List.mem_append_right _ (List.mem_append_left _ hx)))
  obtain ⟨Q', hQ⟩ := sub_list (p := p) Q (fun x hx => h x (List.mem_append_right _ (List.mem_append_right _ hx)))
  exact ⟨P', S', Q', hP, hS, hQ⟩
theorem dcSort_c (p1 bm q : Nat) (D : DataW Unit) (T : ByteArray → Int) (base gb n cap c : Nat) (P S Q : List Sd) (w : World) (hown : w.ownsRow base 86 2 (.slice (some ⟨gb, 0, none⟩) n cap) n ((P ++ (S ++ Q)).flatMap sdE)) (hn : S.length ≤ 19) (h0 : 0 < S.length) (hk : ∀ x ∈ P ++ (S ++ Q), x.who.size ≤ 40)
    (h1 : w.heap[p1]? = some (.cells #[.map (some bm)] 127 (0, 0))) (hm : MI w bm q D) (hT : MapT D T) (hne1 : p1 ≠ gb) (hne2 : bm ≠ gb) :
    Calls Tryz.prog 90 #[.slice (some ⟨gb, P.length * 2, none⟩) S.length c, .func (.func 91) #[] #[.pointer (some ⟨p1, 0, none⟩)]] w fun e w' => e = .returned (.tuple #[]) ∧ w'.ownsRow base 86 2 (.slice (some ⟨gb, 0, none⟩) n cap) n ((P ++ (insL (ltOf fun x y => tmCf (T x.who) (T y.who)) S ++ Q)).flatMap sdE) ∧ w.grownBy w' (some gb) := by
  obtain ⟨P', S', Q', hP, hS, hQ⟩ := sub3 (p := fun x : Sd => x.who.size ≤ 40) hk
  have hS0 : 0 < S'.length := by have : (S'.map Subtype.val).length = S.length := by rw [hS]
                                 rw [List.length_map] at this; omega
  have hinh : Inhabited { x : Sd // x.who.size ≤ 40 } := ⟨S'[0]⟩
  have e1 := insL_map (ltOf fun x y : { x : Sd // x.who.size ≤ 40 } => tmCf (T x.1.who) (T y.1.who)) (ltOf fun x y : Sd => tmCf (T x.who) (T y.who)) Subtype.val (fun _ _ => rfl) S'
  rw [hS] at e1
  have hfl : ∀ X Y Z : List { x : Sd // x.who.size ≤ 40 }, (X ++ (Y ++ Z)).flatMap (fun x => sdE x.1) = (X.map Subtype.val ++ (Y.map Subtype.val ++ Z.map Subtype.val)).flatMap sdE := fun X Y Z => by rw [sdS_flat, List.map_append, List.map_append]
  have hown' : w.ownsRow base 86 2 (.slice (some ⟨gb, 0, none⟩) n cap) n ((P' ++ (S' ++ Q')).flatMap fun x => sdE x.1) := by rw [hfl, hP, hS, hQ]; exact hown
  have eg : ∀ args w, (callFunc 91 args).run Tryz.prog w = .ok (.enter 91 args) w := enters_of Tryz.func91 (by kernel_rfl) rfl
  have hlP : P'.length = P.length := by rw [← hP, List.length_map]
  have hlS : S'.length = S.length := by rw [← hS, List.length_map]
  have hmain := sdSortM_c (fun x : { x : Sd // x.who.size ≤ 40 } => sdE x.1) (fun _ => rfl) (fun x v hv => by simp [sdE] at hv; rcases hv with rfl | rfl <;> rfl) (fun x y => tmCf (T x.1.who) (T y.1.who)) 91 #[.pointer (some ⟨p1, 0, none⟩)] eg base gb n cap c P' S' Q' w (fun m os dk hdk x y => ?_) hown' (by omega)
  · rw [hlP, hlS] at hmain
    refine hmain.mono ?_
    rintro e w' ⟨rfl, ho, hg⟩
    rw [hfl, hP, hQ, ← e1] at ho
    exact ⟨rfl, ho, hg⟩
  · obtain ⟨K9, rfl⟩ : ∃ K9 : List { x : Sd // x.who.size ≤ 40 }, dk = K9.toArray := ⟨dk.toList, by simp⟩
    have hg := (own_sortedMid (enc := fun x : { x : Sd // x.who.size ≤ 40 } => sdE x.1) (fun _ => rfl) (by decide) hown' (S' := K9) (by simpa using hdk) m os).2
    exact (dcC_c p1 bm q D T x.1 y.1 _ (blk_grown h1 hg (fun e => hne1 (Option.some.inj e))) (hm.kept hg (fun e => hne2 (Option.some.inj e))) hT x.2 y.2).mono fun _ _ ⟨he, hB, hD⟩ => ⟨he, grow_of hB hD⟩
end Go.Proofs.YtjafcnblgeibpaaGreatDoor
