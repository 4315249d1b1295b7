/- Contracts of tarfmt.numbers and texts: rows of spans. -/
import Derived.Test.YtikhdbdbdldbaaaDoorSpan
import Derived.Test.YtikhdbdbdldbaaaDoorHdrLaw
import Derived.Test.YtikhdbdbdldbaaaDoorOwn
namespace Go.Proofs.YtikhdbdbdldbaaaDoor
open Go.RowKit

/-- Spans, as cells. -/
def spC (l : List (Nat × Nat)) : List Value := (l.map fun p => [Value.int .i64 (p.1 : Int), Value.int .i64 (p.2 : Int)]).flatten
theorem numbers_any (w : World) : Calls Tryd.prog 38 #[] w fun e w' => ∃ g, e = .returned (.slice (some ⟨g, 0, none⟩) 5 5) ∧ w.heap.size ≤ g ∧ w'.heap[g]? = some (.cells (spC numsL).toArray 53 (0, 0)) ∧ Below w.heap.size w w' := by
  go_enter Tryd.func38, Tryd.ntmps38
  go_wp2_with fail
  go_ret
  exact ⟨w.heap.size, ret_eq (by simp), Nat.le_refl _, heap_alloc_new w _, (Below.refl _ _).alloc (Nat.le_refl _) _⟩
theorem texts_any (w : World) : Calls Tryd.prog 53 #[] w fun e w' => ∃ g, e = .returned (.slice (some ⟨g, 0, none⟩) 2 2) ∧ w.heap.size ≤ g ∧ w'.heap[g]? = some (.cells (spC textsL).toArray 53 (0, 0)) ∧ Below w.heap.size w w' := by
  go_enter Tryd.func53, Tryd.ntmps53
  go_wp2_with fail
  go_ret
  exact ⟨w.heap.size, ret_eq (by simp), Nat.le_refl _, heap_alloc_new w _, (Below.refl _ _).alloc (Nat.le_refl _) _⟩
theorem spC_at (l : List (Nat × Nat)) : ∀ (j : Nat) (p : Nat × Nat), l[j]? = some p → (spC l)[2 * j]? = some (.int .i64 (p.1 : Int)) ∧ (spC l)[2 * j + 1]? = some (.int .i64 (p.2 : Int)) := by
  induction l with
  | nil => intro j p h; simp at h
  | cons q l ih =>
    intro j p h
    cases j with
    | zero => simp at h; subst h; simp [spC]
    | succ j =>
      have := ih j p (by simpa using h)
      unfold spC at *
      simp only [List.map_cons, List.flatten_cons]
      rw [List.getElem?_append_right (by simp; omega), List.getElem?_append_right (by simp; omega)]
      simpa [show 2 * (j + 1) - 2 = 2 * j by omega, show 2 * (j + 1) + 1 - 2 = 2 * j + 1 by omega] using this
/-- A span of such a row, loaded. -/
theorem span_range {w : World} {g : Nat} {l : List (Nat × Nat)} (h : w.heap[g]? = some (.cells (spC l).toArray 53 (0, 0))) (j : Nat) (p : Nat × Nat) (hj : l[j]? = some p) :
    w.rangeAt g (2 * j) [.int .i64 (p.1 : Int), .int .i64 (p.2 : Int)] := by
  obtain ⟨h1, h2⟩ := spC_at l j p hj
  intro i v hi
  rw [cell_of_row w g (2 * j + i) _ _ _ h, List.getElem?_toArray]
  match i with
  | 0 => simp at hi; subst hi; simpa using h1
  | 1 => simp at hi; subst hi; simpa using h2
  | i + 2 => simp at hi
theorem span_size : (Tryd.prog.info? 53).map (·.size) = some 2 := by kernel_rfl
theorem run_load_span {w : World} {g o : Nat} {a n : Value} (h : w.rangeAt g o [a, n]) : (Instr.loadAt 53 (.pointer (some ⟨g, o, none⟩))).run Tryd.prog w = .ok (.agg #[a, n]) w :=
  run_loadAt_mid w g o 53 [a, n] _ h Tryd.underlying53 rfl span_size
end Go.Proofs.YtikhdbdbdldbaaaDoor
