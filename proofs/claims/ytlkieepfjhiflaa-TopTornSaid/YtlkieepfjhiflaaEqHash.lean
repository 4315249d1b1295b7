/- '==' and '!=' of two hashes. -/
import Derived.Test.YtlkieepfjhiflaaSum
import Derived.ChangeKeysEq
import Derived.Laws.StructEq
namespace Go.Proofs.Ytlkieepfjhiflaa
open Go.RowKit

theorem run_eqItems_bytes (w : World) (d : Nat) (l m : List UInt8) : ∀ is : List Nat, (∀ i ∈ is, i < l.length ∧ i < m.length) →
    (Op.eqItems (d + 1) 5 1 (aB l) (aB m) is).run Try.prog w = .ok (decide (∀ i ∈ is, l[i]? = m[i]?)) w
  | [], _ => by simp [Op.eqItems]
  | i :: is, h => by
    obtain ⟨h1, h2⟩ := h i (by simp)
    have p1 : (part 5 (aB l) (i * 1)).run Try.prog w = .ok (vB l[i]) w := run_part_plain (w := w) (by simp [Program.plainKey, Try.underlying5]) (by simp [aB, h1])
    have p2 : (part 5 (aB m) (i * 1)).run Try.prog w = .ok (vB m[i]) w := run_part_plain (w := w) (by simp [Program.plainKey, Try.underlying5]) (by simp [aB, h2])
    have p3 : (Op.equalIn (d + 1) 5 (vB l[i]) (vB m[i])).run Try.prog w = .ok (l[i] == m[i]) w := by
      have := run_equalIn_int (P := Try.prog) w d 5 .u8 .u8 (n8 l[i]) (n8 m[i]) Try.underlying5
      rw [n8_beq] at this
      exact this
    have ih := run_eqItems_bytes w d l m is (fun j hj => h j (by simp [hj]))
    simp only [Op.eqItems, Sem.run_bind, p1, p2, p3, Result.andThen_ok]
    by_cases e : l[i] = m[i]
    · simp [e, ih, h1, h2]
    · simp [e, h1, h2]
theorem hash_depth : Try.prog.eqGuardType Try.prog.depth 33 = false := by kernel_rfl
theorem hash_cells : Try.prog.cellsOf 5 = 1 := by kernel_rfl
theorem hash_row : ∃ i, Try.prog.info? 5 = some i := by
  have h : (Try.prog.info? 5).isSome = true := by kernel_rfl
  exact Option.isSome_iff_exists.1 h
set_option maxRecDepth 100000 in
theorem run_equalIn_hash (w : World) (l m : List UInt8) (hl : l.length = 32) (hm : m.length = 32) :
    (Op.equalIn 10000 33 (.agg (aB l)) (.agg (aB m))).run Try.prog w = .ok (decide (l = m)) w := by
  obtain ⟨i, hi⟩ := hash_row
  rw [run_equalIn_array w 9999 (aB l) (aB m) Try.underlying33 hi, hash_cells, run_eqItems_bytes w 9998 l m _ (by simp [hl, hm])]
  congr 1
  rw [decide_eq_decide]
  constructor
  · intro h
    refine List.ext_getElem? fun j => ?_
    by_cases hj : j < 32
    · exact h j (by simp [hj])
    · rw [List.getElem?_eq_none (by omega), List.getElem?_eq_none (by omega)]
  · rintro rfl; simp
theorem run_eql_hash (w : World) (l m : List UInt8) (hl : l.length = 32) (hm : m.length = 32) :
    (binOp .eql 33 (.agg (aB l)) (.agg (aB m))).run Try.prog w = .ok (.bool (decide (l = m))) w := by
  rw [run_eql_struct, run_equalIn_hash w l m hl hm]; rfl
theorem run_neq_hash (w : World) (l m : List UInt8) (hl : l.length = 32) (hm : m.length = 32) :
    (binOp .neq 33 (.agg (aB l)) (.agg (aB m))).run Try.prog w = .ok (.bool (!decide (l = m))) w := by
  rw [run_neq_struct, run_equalIn_hash w l m hl hm]; rfl
theorem run_eqGuard_hash (w : World) (op : BinOp) (x y : Operand) (xs ys : Array Value) : (eqGuard op 33 x y (.agg xs) (.agg ys)).run Try.prog w = .ok () w :=
  run_eqGuard_agg w op _ x y xs ys hash_depth
end Go.Proofs.Ytlkieepfjhiflaa
