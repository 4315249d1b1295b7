/- A region that draws its order, among worlds that only grew: each call's value is the same in all of them; its last operations may write. -/
import Derived.Test.YtikhdbdbdldbaaaDoorTail
import Derived.Test.YtikhdbdbdldbaaaDoorFr
import Derived.Test.YtikhdbdbdldbaaaDoorOwn
import Derived.BigQuiet
import Derived.Deep.MidRow
namespace Go.Proofs.YtikhdbdbdldbaaaDoor
open Go.RowKit

/-- The worlds that only grew. -/
def ClT (W : World) : Type := { w' : World // Below W.heap.size W w' }
def ClT.w {W : World} (q : ClT W) : World := q.1
theorem cl_some (W : World) : Nonempty (ClT W) := ⟨⟨W, Below.refl _ _⟩⟩
theorem below_drewN (w : World) (n : Nat) : Below w.heap.size w (w.drewN n) := ⟨(Below.refl w.heap.size w).os, (Below.refl w.heap.size w).tape, (Below.refl w.heap.size w).output, (Below.refl w.heap.size w).size, (Below.refl w.heap.size w).block⟩
theorem cl_start (w : World) : ∃ q : ClT w, { w with drawn := w.drawn + 1 } = q.w := ⟨⟨w.drewN 1, below_drewN w 1⟩, rfl⟩
theorem cl_call {W : World} {f : FuncId} {args : Array Value} {E : Ending} (h : ∀ w, Below W.heap.size W w → Calls Tryd.prog f args w fun e w' => e = E ∧ Below w.heap.size w w') :
    ∀ q : ClT W, Calls Tryd.prog f args q.w fun e w' => e = E ∧ ∃ q' : ClT W, w' = q'.w :=
  fun q => (h q.1 q.2).mono fun _ w' h => ⟨h.1, ⟨w', q.2.trans (h.2.mono q.2.size)⟩, rfl⟩
theorem cl_load {W : World} {b t : Nat} {cs : List Value} {d : TypeDesc} (hr : W.heap[b]? = some (.cells cs.toArray t (0, 0))) (hu : Tryd.prog.underlying t = some d) (hd : d.isRow = true) (hi : (Tryd.prog.info? t).map (·.size) = some cs.length)
    (w' : World) (hC : ∃ q : ClT W, w' = q.w) : (loadVar t ⟨b, 0, none⟩).run Tryd.prog w' = .ok (.agg cs.toArray) w' := by
  obtain ⟨q, rfl⟩ := hC
  exact run_loadVar_mid q.w b 0 t cs d (row_range ((q.2.block b (Array.getElem?_eq_some_iff.1 hr).1).trans hr)) hu hd hi
theorem cl_cell {W : World} {p : Addr} {v : Value} (h : W.cell? p = some v) (q : ClT W) : q.w.cell? p = some v := (q.2.cell (block_lt_of_cell h)).trans h
theorem wp_region_class {T : Type} (f : T → World) {P : Program} {id : Nat} {Q : Exit → Act → World → Prop} {a : Act} {w : World} {l : List Oper} (hm : P.follows .mixedOrders = true) (hB : Region.lexB .any l.toArray = true)
    (hC : ∃ q, { w with drawn := w.drawn + 1 } = f q)
    (h : wpQuiet P l.toArray (fun w' => ∃ q, w' = f q) (fun a' => ∀ w', (∃ q, w' = f q) → Q .normal a' w') l a) : (Code.region id l.toArray true).wp P Q a w :=
  wp_region_quiet (C := fun w' => ∃ q, w' = f q) hm hB hC (by simpa using h)
/-- The same, and the last operations, from number n on, may write. -/
theorem wp_region_clast {T : Type} (f : T → World) {P : Program} {id : Nat} {Q : Exit → Act → World → Prop} {a : Act} {w : World} {l : List Oper} (n : Nat) (hm : P.follows .mixedOrders = true) (hB : Region.lexTailB .any l.toArray n = true)
    (hC : ∃ q, { w with drawn := w.drawn + 1 } = f q)
    (h : wpQuiet P l.toArray (fun w' => ∃ q, w' = f q) (fun a' => ∀ w', (∃ q, w' = f q) → wpList P l.toArray Q (l.drop n) a' w') (l.take n) a) : (Code.region id l.toArray true).wp P Q a w :=
  wp_region_qtail (C := fun w' => ∃ q, w' = f q) n hm hB hC h
end Go.Proofs.YtikhdbdbdldbaaaDoor
