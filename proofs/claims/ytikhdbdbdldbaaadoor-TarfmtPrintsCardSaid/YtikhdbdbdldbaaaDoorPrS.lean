/- The state of Print's last loop: the entry's box, its data, the row that is written. -/
import Derived.Test.YtikhdbdbdldbaaaDoorEnts
import Derived.Test.YtikhdbdbdldbaaaDoorStepB
import Derived.Deep.RegionLaw
namespace Go.Proofs.YtikhdbdbdldbaaaDoor
open Go.RowKit

/-- A world behind w: an entry's box at gb, the row of one's own v holds O; the data lie below w's end. -/
structure PrS (w W : World) (gb : Nat) (e : EntD) (da : Option Addr) (dc : Nat) (v : Value) (O : List UInt8) : Prop where
  below : Below w.heap.size w W
  row : W.heap[gb]? = some (.cells (eC e (.slice da e.data.length dc)).toArray 31 (0, 0))
  le : w.heap.size ≤ gb
  data : RdB w (.slice da e.data.length dc) e.data
  own : OwnB W w.heap.size v O
section
variable {w W W2 : World} {gb : Nat} {e : EntD} {da : Option Addr} {dc : Nat} {v : Value} {O : List UInt8}
theorem PrS.rd (H : PrS w W gb e da dc v O) : RdB W (.slice da e.data.length dc) e.data := RdV.below H.data H.below
theorem PrS.c4 (H : PrS w W gb e da dc v O) : W.cell? ⟨gb, 4, none⟩ = some (.slice da e.data.length dc) := (cell_of_row W gb 4 _ _ _ H.row).trans rfl
theorem PrS.c0 (H : PrS w W gb e da dc v O) : W.cell? ⟨gb, 0, none⟩ = some (.string (bs e.name)) := (cell_of_row W gb 0 _ _ _ H.row).trans rfl
theorem PrS.c1 (H : PrS w W gb e da dc v O) : W.cell? ⟨gb, 1, none⟩ = some (.int .i64 e.kind) := (cell_of_row W gb 1 _ _ _ H.row).trans rfl
theorem PrS.c2 (H : PrS w W gb e da dc v O) : W.cell? ⟨gb, 2, none⟩ = some (.int .i64 e.mode) := (cell_of_row W gb 2 _ _ _ H.row).trans rfl
theorem PrS.c3 (H : PrS w W gb e da dc v O) : W.cell? ⟨gb, 3, none⟩ = some (.string (bs e.link)) := (cell_of_row W gb 3 _ _ _ H.row).trans rfl
theorem PrS.keep (H : PrS w W gb e da dc v O) (hb : Below W.heap.size W W2) : PrS w W2 gb e da dc v O :=
  ⟨H.below.trans (hb.mono H.below.size), (hb.block _ (Array.getElem?_eq_some_iff.1 H.row).1).trans H.row, H.le, H.data, own_below H.own hb⟩
theorem PrS.drewN (H : PrS w W gb e da dc v O) (n : Nat) : PrS w (W.drewN n) gb e da dc v O := H.keep (below_drewN W n)
theorem PrS.drew (H : PrS w W gb e da dc v O) : PrS w W.drew gb e da dc v O := H.keep (below_drewN W 1)
theorem PrS.app (H : PrS w W gb e da dc v O) {v' : Value} {O' : List UInt8} (ho : OwnB W2 w.heap.size v' O') (hg : W.grownBy W2 v.ownBlock) : PrS w W2 gb e da dc v' O' :=
  ⟨H.below.trans (own_grow_below H.own hg H.below.size (Nat.le_refl _)), row_grown H.own hg H.row (by decide), H.le, H.data, ho⟩
end
end Go.Proofs.YtikhdbdbdldbaaaDoor
