/- A law's standing facts: the race in its cell, the field, the stream, what lay below. Over any program. -/
import Derived.Test.YtmnidnmdjkfhnaaGreatDoorSwims2
import Derived.Test.YtmnidnmdjkfhnaaGreatDoorStructs
namespace Go.Proofs.YtmnidnmdjkfhnaaGreatDoor
open Go.RowKit
set_option linter.unusedVariables false

structure KF (w : World) (b : Nat) (r : Race) (A : Option Addr) (n : Nat) (l : List Sw) (zs : List Int) (k : Nat) (wx : World) : Prop where
  rc : wx.heap[b]? = some (.cells r.cells 27 (0, 0))
  fd : RSw wx A n l
  st : St wx w.heap.size zs k
  bel : Below w.heap.size w wx
section
variable {w wx w' : World} {b : Nat} {r : Race} {A : Option Addr} {n : Nat} {l : List Sw} {zs : List Int} {k : Nat}
theorem KF.below (h : KF w b r A n l zs k wx) (B : Below wx.heap.size wx w') : KF w b r A n l zs k w' := ⟨blk_below h.rc B, h.fd.below B, h.st.below B, below_next h.bel B⟩
theorem KF.alloc (h : KF w b r A n l zs k wx) (o : Obj) : KF w b r A n l zs k (wx.alloc o) := h.below (below_new wx o)
theorem KF.drewN (h : KF w b r A n l zs k wx) (q : Nat) : KF w b r A n l zs k (wx.drewN q) := h.below (below_drewN (Below.refl _ _) q)
theorem KF.stream {k' : Nat} (h : KF w b r A n l zs k wx) (hs : St w' w.heap.size zs k') (hg : wx.grownBy w' (some w.heap.size)) : KF w b r A n l zs k' w' :=
  ⟨h.st.keep hg b r.cells _ (0, 0) (by decide) h.rc, h.fd.stream h.st hg, hs, h.bel.trans (grown_below hg (Nat.le_refl _) h.bel.size)⟩
end
end Go.Proofs.YtmnidnmdjkfhnaaGreatDoor
