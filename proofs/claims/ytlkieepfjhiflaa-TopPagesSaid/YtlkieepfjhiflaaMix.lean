/- The contract of sha's mix: one block of 64 bytes mixed into a hash, at whatever hash and bytes; the constants in memory as sha.rounds lays them. -/
import Derived.Test.YtlkieepfjhiflaaShaSpec
import Derived.Test.YtlkieepfjhiflaaTail
import Derived.Laws.CopyOwn
namespace Go.Proofs.Ytlkieepfjhiflaa
open Go.RowKit

/-- A row of n words. -/
def rowF (f : Nat → UInt32) (n : Nat) : Array Value := ((List.range n).map fun i => Value.int .u32 (n32 (f i))).toArray
theorem rowF_get (f : Nat → UInt32) (n i : Nat) (h : i < n) : (rowF f n)[i]? = some (.int .u32 (n32 (f i))) := by simp [rowF, h]
theorem rowF_size (f : Nat → UInt32) (n : Nat) : (rowF f n).size = n := by simp [rowF]
theorem rowF_set (f g : Nat → UInt32) (n i : Nat) (h : i < n) (hg : ∀ j, j ≠ i → g j = f j) : (rowF f n).setIfInBounds i (.int .u32 (n32 (g i))) = rowF g n := by
  apply Array.ext'
  simp only [rowF, Array.toList_setIfInBounds]
  apply List.ext_getElem?
  intro j
  simp only [List.getElem?_set, List.getElem?_map]
  by_cases hj : i = j
  · subst hj; simp [h]
  · by_cases hjn : j < n
    · simp [hj, hjn, hg j (Ne.symm hj)]
    · simp [hj, hjn]
theorem rowF_cell {w : World} {g t : Nat} {fr : Nat × Nat} {f : Nat → UInt32} {n i : Nat} (hg : w.heap[g]? = some (.cells (rowF f n) t fr)) (h : i < n) : w.cell? ⟨g, i, none⟩ = some (.int .u32 (n32 (f i))) := by
  rw [cell_of_row w g i _ t fr hg, rowF_get f n i h]
theorem rowF_one (f : Nat → UInt32) (n : Nat) : (rowF f n).all (·.oneCell') = true := by
  apply Array.all_eq_true_iff_forall_mem.2
  intro v hv
  simp only [rowF, List.mem_toArray, List.mem_map] at hv
  obtain ⟨i, _, rfl⟩ := hv
  rfl

def St.fn (s : St) (i : Nat) : UInt32 := match i with | 0 => s.a | 1 => s.b | 2 => s.c | 3 => s.d | 4 => s.e | 5 => s.f | 6 => s.g | _ => s.h
theorem St.row (s : St) : rowF s.fn 8 = s.cells := rfl

/-- The memory of a call of mix: the hash's box, the result's, the schedule. -/
structure MixW (w wr : World) (m : Nat) (p : Nat → UInt32) (f : Nat → UInt32) : Prop where
  below : Below w.heap.size w wr
  size : wr.heap.size = w.heap.size + m
  hbox : wr.heap[w.heap.size]? = some (.cells (rowF p 8) 84 (0, 0))
  out : wr.heap[w.heap.size + 1]? = some (.cells (rowF (fun _ => 0) 8) 84 (0, 0))
  row : wr.heap[w.heap.size + 1 + 1]? = some (.cells (rowF f 64) 115 (0, 0))

section
variable {w wr : World} {m : Nat} {p f : Nat → UInt32}
theorem MixW.cell (M : MixW w wr m p f) {k : Nat} (hk : k < 64) : wr.cell? ⟨w.heap.size + 1 + 1, k, none⟩ = some (.int .u32 (n32 (f k))) := rowF_cell M.row hk
theorem MixW.free (M : MixW w wr m p f) (k : Nat) : wr.frozen? ⟨w.heap.size + 1 + 1, k, none⟩ = false := frozen_of_row wr _ _ _ _ M.row
theorem MixW.drew (M : MixW w wr m p f) (n : Nat) : MixW w (wr.drewN n) m p f :=
  ⟨⟨M.below.os, M.below.tape, M.below.output, M.below.size, M.below.block⟩, M.size, M.hbox, M.out, M.row⟩
/-- A store into the schedule. -/
theorem MixW.step (M : MixW w wr m p f) {k : Nat} (hk : k < 64) (g : Nat → UInt32) (hg : ∀ j, j ≠ k → g j = f j) :
    MixW w (wr.setCell ⟨w.heap.size + 1 + 1, k, none⟩ (.int .u32 (n32 (g k)))) m p g := by
  refine ⟨M.below.setCell (by show w.heap.size ≤ w.heap.size + 1 + 1; omega) _, ?_, ?_, ?_, ?_⟩
  · rw [← M.size]; simp [World.setCell]
  · rw [heap_setCell_other _ _ _ _ (by show w.heap.size ≠ w.heap.size + 1 + 1; omega)]; exact M.hbox
  · rw [heap_setCell_other _ _ _ _ (by show w.heap.size + 1 ≠ w.heap.size + 1 + 1; omega)]; exact M.out
  · rw [heap_setCell_same _ _ _ _ _ _ M.row, rowF_set f g 64 k hk hg]
/-- A store into the hash's box. -/
theorem MixW.stepH (M : MixW w wr m p f) {k : Nat} (hk : k < 8) (g : Nat → UInt32) (hg : ∀ j, j ≠ k → g j = p j) :
    MixW w (wr.setCell ⟨w.heap.size, k, none⟩ (.int .u32 (n32 (g k)))) m g f := by
  refine ⟨M.below.setCell (by show w.heap.size ≤ w.heap.size; omega) _, ?_, ?_, ?_, ?_⟩
  · rw [← M.size]; simp [World.setCell]
  · rw [heap_setCell_same _ _ _ _ _ _ M.hbox, rowF_set p g 8 k hk hg]
  · rw [heap_setCell_other _ _ _ _ (by show w.heap.size + 1 ≠ w.heap.size; omega)]; exact M.out
  · rw [heap_setCell_other _ _ _ _ (by show w.heap.size + 1 + 1 ≠ w.heap.size; omega)]; exact M.row
/-- Whatever is done to a block behind them. -/
theorem MixW.keep {w1 : World} {m1 : Nat} (M : MixW w wr m p f) (hb : Below (w.heap.size + 3) wr w1) (hs : w1.heap.size = w.heap.size + m1) : MixW w w1 m1 p f :=
  ⟨M.below.trans (hb.mono (by omega)), hs, (hb.block _ (by omega)).trans M.hbox, (hb.block _ (by omega)).trans M.out, (hb.block _ (by omega)).trans M.row⟩
end

/-- Behind the schedule: the running hash too. -/
structure MixV (w wr : World) (p f : Nat → UInt32) (t : St) : Prop where
  base : MixW w wr 4 p f
  vrow : wr.heap[w.heap.size + 3]? = some (.cells t.cells 84 (0, 0))
theorem MixV.drew {w wr : World} {p f : Nat → UInt32} {t : St} (M : MixV w wr p f t) (n : Nat) : MixV w (wr.drewN n) p f t := ⟨M.base.drew n, M.vrow⟩

/-- A round's stores. -/
theorem MixV.round {w wr : World} {p f : Nat → UInt32} {t : St} (M : MixV w wr p f t) (k x : UInt32) (cs : Array Value)
    (hcs : cs = #[.int .u32 (n32 t.a), .int .u32 (n32 t.a), .int .u32 (n32 t.b), .int .u32 (n32 t.c), .int .u32 (n32 t.d), .int .u32 (n32 t.e), .int .u32 (n32 t.f), .int .u32 (n32 t.g)]) :
    MixV w (((wr.setRow (w.heap.size + 3) cs).setCell ⟨w.heap.size + 3, 4, none⟩ (.int .u32 (n32 (t.d + tOf t k x)))).setCell ⟨w.heap.size + 3, 0, none⟩ (.int .u32 (n32 (tOf t k x + uOf t)))) p f (t.round k x) := by
  have h0 : (wr.setRow (w.heap.size + 3) cs).heap[w.heap.size + 3]? = some (.cells cs 84 (0, 0)) := setRow_heap wr _ _ _ _ _ M.vrow
  have hb0 : Below (w.heap.size + 3) wr (wr.setRow (w.heap.size + 3) cs) := below_setRow (Below.refl _ _) (Nat.le_refl _) _
  have hb := (hb0.setCell (p := ⟨w.heap.size + 3, 4, none⟩) (Nat.le_refl _) (.int .u32 (n32 (t.d + tOf t k x)))).setCell (p := ⟨w.heap.size + 3, 0, none⟩) (Nat.le_refl _) (.int .u32 (n32 (tOf t k x + uOf t)))
  refine ⟨M.base.keep hb (by rw [← M.base.size]; simp [World.setCell, World.setRow]), ?_⟩
  rw [heap_setCell_same _ _ _ _ _ _ (heap_setCell_same _ _ _ _ _ _ h0), hcs]
  rfl

end Go.Proofs.Ytlkieepfjhiflaa
