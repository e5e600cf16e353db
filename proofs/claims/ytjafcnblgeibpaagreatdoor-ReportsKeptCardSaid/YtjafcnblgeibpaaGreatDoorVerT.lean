import Derived.Test.YtjafcnblgeibpaaGreatDoorVerR
/- tumbref1.stands and tumbref1.verdictOf. Printed by wip/genvers.py. -/
namespace Go.Proofs.YtjafcnblgeibpaaGreatDoor
open Go.RowKit Go.Shelf Go.Lib Go.Sort
set_option linter.unusedVariables false

/-- what the reference's verdict hands back -/
def RetVr (w : World) (who : ByteArray) (F : Int) (ids : List ByteArray) (e : Ending) (w' : World) : Prop := ∃ A c, e = .returned (.agg #[.string who, .int .i64 F, .slice A ids.length c]) ∧ RS 9 w' A ids.length ids ∧ CapOk A ids.length c ∧ Below w.heap.size w w'
def nidL (l : List Rp) : List ByteArray := (l.filter fun x => !x.nt).map Rp.id
theorem nidL_at {l : List Rp} {k : Nat} {x : Rp} (h : l[k]? = some x) : nidL (l.drop k) = (if x.nt = false then [x.id] else []) ++ nidL (l.drop (k + 1)) := by
  rw [drop_at h]
  unfold nidL
  by_cases hm : x.nt = false
  · rw [if_pos hm, List.filter_cons_of_pos (by simp [hm])]; rfl
  · rw [if_neg hm, List.filter_cons_of_neg (by simpa using hm)]; rfl
theorem nidL_about {l : List Rp} (hw : ∀ x ∈ l, 1 ≤ x.wt) (who : ByteArray) (f at_ : Int) : repL who f at_ (lastV l who f at_).wt l = nidL (aboutV l who f at_) := by
  have h3 := (last_about hw who f at_).2.2
  unfold repL nidL aboutV
  rw [List.filter_filter, h3]
  congr 1
  apply List.filter_congr
  intro x _
  unfold abB
  cases mtB who f at_ x <;> cases decide (x.wt = mostV l who f at_) <;> cases x.nt <;> rfl
theorem nidL_len (l : List Rp) : (nidL l).length ≤ l.length := by
  unfold nidL; rw [List.length_map]; exact List.length_filter_le _ _
theorem about_len (l : List Rp) (who : ByteArray) (f at_ : Int) : (aboutV l who f at_).length ≤ l.length := List.length_filter_le _ _
end Go.Proofs.YtjafcnblgeibpaaGreatDoor

/- Lists of verdicts: judge.Verdicts, tumbref1.VerdictsOf; slices.EqualFunc by tumbref1.SameVerdict. Printed by wip/genvert.py. -/
namespace Go.Proofs.YtjafcnblgeibpaaGreatDoor
open Go.RowKit Go.Shelf Go.Lib Go.Sort
set_option linter.unusedVariables false

/-- a verdict that lies in a row -/
structure Vx where
  who : ByteArray
  fl : Int
  A : Option Addr
  c : Nat
  ids : List ByteArray
def vxE (x : Vx) : List Value := [.string x.who, .int .i64 x.fl, .slice x.A x.ids.length x.c]
theorem vxE_len : ∀ x, (vxE x).length = 3 := fun _ => rfl
def Vx.abs (x : Vx) : ByteArray × Int × List ByteArray := (x.who, x.fl, x.ids)
def RVx (w : World) (A : Option Addr) (n : Nat) (L : List Vx) : Prop := RN 3 vxE 211 w A n L ∧ ∀ x ∈ L, RS 9 w x.A x.ids.length x.ids
theorem RVx.below {w w' : World} {A : Option Addr} {n : Nat} {L : List Vx} (h : RVx w A n L) (B : Below w.heap.size w w') : RVx w' A n L := ⟨h.1.below B, fun x hx => (h.2 x hx).below B⟩
theorem RVx_at3 {w : World} {A : Option Addr} {n : Nat} {L : List Vx} (h : RVx w A n L) {k : Nat} (hk : k < n) : ∃ b off x, A = some ⟨b, off, none⟩ ∧ b < w.heap.size ∧ L[k]? = some x ∧ w.cell? ⟨b, off + k * 3, none⟩ = some (.string x.who) ∧ w.cell? ⟨b, off + k * 3 + 1, none⟩ = some (.int .i64 x.fl) ∧ w.cell? ⟨b, off + k * 3 + 2, none⟩ = some (.slice x.A x.ids.length x.c) ∧ RS 9 w x.A x.ids.length x.ids := by
  obtain ⟨b, off, x, hA, hb, hx, hc⟩ := h.1.at_ hk
  exact ⟨b, off, x, hA, hb, hx, hc 0 _ rfl, hc 1 _ rfl, hc 2 _ rfl, h.2 x (List.mem_of_getElem? hx)⟩
theorem info_verdict : (Tryz.prog.info? 211).map (fun i => (i.zero, i.size, i.bytes)) = some (some (.agg #[.string ⟨#[]⟩, .int .i64 0, .slice none 0 0]), 3, 48) := by kernel_rfl
/-- verdicts under way -/
structure VsK (w : World) (u : Value) (L : List Vx) (wx : World) : Prop where
  o : wx.ownsRow w.heap.size 211 3 u L.length (L.flatMap vxE)
  r : ∀ x ∈ L, RS 9 wx x.A x.ids.length x.ids
  bel : Below w.heap.size w wx
section
variable {w wx w' : World} {u v' : Value} {L : List Vx} {x : Vx}
theorem VsK.start (B : Below w.heap.size w wx) : VsK w (.slice none 0 0) [] wx := ⟨World.ownsRow_nil _ _ _ _, (fun x h => by cases h), B⟩
theorem VsK.below (h : VsK w u L wx) (B : Below wx.heap.size wx w') : VsK w u L w' := ⟨own_below h.o B, fun x hx => (h.r x hx).below B, below_next h.bel B⟩
theorem VsK.app (h : VsK w u L wx) (hx : RS 9 wx x.A x.ids.length x.ids) (ho : w'.ownsRow w.heap.size 211 3 v' (L.length + 1) (L.flatMap vxE ++ vxE x)) (hg : wx.grownBy w' u.ownBlock) : VsK w v' (L ++ [x]) w' := by
  have hk := keep_own7 h.o hg
  refine ⟨by rw [List.length_append, List.flatMap_append, List.flatMap_singleton]; exact ho, fun y hy => ?_, below_own h.bel h.o hg h.bel.size (Nat.le_refl _)⟩
  rcases List.mem_append.1 hy with hy | hy
  · exact (h.r y hy).keep (by decide) hk
  · obtain rfl := List.mem_singleton.1 hy
    exact hx.keep (by decide) hk
theorem VsK.fin {A : Option Addr} {n c : Nat} (h : VsK w (.slice A n c) L wx) (hn : n = L.length) (hb : n ≤ 140737488355328) : RVx wx A n L := ⟨RN.of_own vxE_len (by rw [hn] at h ⊢; exact h.o) hn.symm hb, h.r⟩
end
/-- what is decided of all of whom something is told -/
def vdsV (l : List Rp) (at_ : Int) (gone : ByteArray → Int → Bool) : List (ByteArray × Int × List ByteArray) := (toldV l at_).map fun who => (who, fltV l who at_ (gone who), idsV l who at_ (fltV l who at_ (gone who)))
theorem toldV_len (l : List Rp) (at_ : Int) : (toldV l at_).length ≤ l.length := Nat.le_trans (onceB_len _) (toldL_len l at_)
theorem equalS2_c (A1 A2 : Option Addr) (n c m d : Nat) (l : List ByteArray) (w : World) (h1 : RS 9 w A1 n l) (h2 : RS 9 w A2 m l) :
    Calls Tryz.prog 25 #[.slice A1 n c, .slice A2 m d] w fun e w' => e = .returned (.bool true) ∧ Below w.heap.size w w' := by
  have hn := h1.len
  have hm := h2.len
  have b1 := h1.bd
  obtain rfl : n = m := hn.symm.trans hm
  rcases Nat.eq_zero_or_pos n with h0 | hp
  · subst h0
    exact (Tryz.slices_Equal_string_empty A1 A2 c 0 d w (by omega)).mono fun _ _ ⟨he, hw⟩ => ⟨he, by rw [hw]; exact Below.refl _ _⟩
  · obtain ⟨b1', o1, rfl, hc1⟩ := shelfS h1 hp
    obtain ⟨b2', o2, rfl, hc2⟩ := shelfS h2 hp
    refine (Tryz.slices_Equal_string b1' o1 n c b2' o2 n d l l w (by omega) (by omega) (by omega) (by omega) hc1 hc2).mono fun _ _ ⟨he, q, hw⟩ => ⟨?_, by rw [hw]; exact below_drewN (Below.refl _ _) q⟩
    rw [he]; simp
/-- what Verdicts and Final hand back -/
def RetVs (w : World) (E : Int) (D : List (ByteArray × Int × List ByteArray)) (e : Ending) (w' : World) : Prop := ∃ (A : Option Addr) (n c : Nat) (L : List Vx), e = .returned (.tuple #[.slice A n c, .int .i64 E]) ∧ RVx w' A n L ∧ L.map Vx.abs = D ∧ Below w.heap.size w w'
def RetV1 (w : World) (D : List (ByteArray × Int × List ByteArray)) (e : Ending) (w' : World) : Prop := ∃ (A : Option Addr) (n c : Nat) (L : List Vx), e = .returned (.slice A n c) ∧ RVx w' A n L ∧ L.map Vx.abs = D ∧ Below w.heap.size w w'
def momB (at_ : Int) : Bool := decide (0 ≤ at_ ∧ at_ ≤ 345686399999)
def vrdE (l : List Rp) (at_ : Int) : Int := if rpErr l ≠ 0 then rpErr l else if momB at_ = true then 0 else 1
theorem vds_take {l : List Rp} {at_ : Int} {gone : ByteArray → Int → Bool} {k : Nat} {who : ByteArray} (h : (toldV l at_)[k]? = some who) : ((toldV l at_).take (k + 1)).map (fun who => (who, fltV l who at_ (gone who), idsV l who at_ (fltV l who at_ (gone who)))) = ((toldV l at_).take k).map (fun who => (who, fltV l who at_ (gone who), idsV l who at_ (fltV l who at_ (gone who)))) ++ [(who, fltV l who at_ (gone who), idsV l who at_ (fltV l who at_ (gone who)))] := by
  rw [List.take_add_one, h, List.map_append]; rfl
end Go.Proofs.YtjafcnblgeibpaaGreatDoor
