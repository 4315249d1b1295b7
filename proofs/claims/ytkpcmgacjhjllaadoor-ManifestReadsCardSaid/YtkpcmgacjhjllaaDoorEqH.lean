/- '==' and '!=' of two hashes; a hash loaded in a region that draws its order. -/
import Derived.Test.YtkpcmgacjhjllaaDoorOwn
import Derived.ChangeKeysEq
import Derived.Laws.StructEq
namespace Go.Proofs.YtkpcmgacjhjllaaDoor
open Go.RowKit

theorem run_eqItems_bs (w : World) (d : Nat) (l m : List UInt8) : ∀ is : List Nat, (∀ i ∈ is, i < l.length ∧ i < m.length) →
    (Op.eqItems (d + 1) 5 1 (l.map vB).toArray (m.map vB).toArray is).run Tryd.prog w = .ok (decide (∀ i ∈ is, l[i]? = m[i]?)) w
  | [], _ => by simp [Op.eqItems]
  | i :: is, h => by
    obtain ⟨h1, h2⟩ := h i (by simp)
    have p1 : (part 5 (l.map vB).toArray (i * 1)).run Tryd.prog w = .ok (vB l[i]) w := run_part_plain (w := w) (by simp [Program.plainKey, Tryd.underlying5]) (by simp [h1])
    have p2 : (part 5 (m.map vB).toArray (i * 1)).run Tryd.prog w = .ok (vB m[i]) w := run_part_plain (w := w) (by simp [Program.plainKey, Tryd.underlying5]) (by simp [h2])
    have p3 : (Op.equalIn (d + 1) 5 (vB l[i]) (vB m[i])).run Tryd.prog w = .ok (l[i] == m[i]) w := by
      have := run_equalIn_int (P := Tryd.prog) w d 5 .u8 .u8 (n8 l[i]) (n8 m[i]) Tryd.underlying5
      rw [n8_beq] at this
      exact this
    have ih := run_eqItems_bs w d l m is (fun j hj => h j (by simp [hj]))
    simp only [Op.eqItems, Sem.run_bind, p1, p2, p3, Result.andThen_ok]
    by_cases e : l[i] = m[i]
    · simp [e, ih, h1, h2]
    · simp [e, h1, h2]
theorem hsh_depth : Tryd.prog.eqGuardType Tryd.prog.depth 33 = false := by kernel_rfl
theorem hsh_cells : Tryd.prog.cellsOf 5 = 1 := by kernel_rfl
theorem hsh_row : ∃ i, Tryd.prog.info? 5 = some i := by
  have h : (Tryd.prog.info? 5).isSome = true := by kernel_rfl
  exact Option.isSome_iff_exists.1 h
theorem run_equalIn_hsh (w : World) (l m : List UInt8) (hl : l.length = 32) (hm : m.length = 32) :
    (Op.equalIn 10000 33 (.agg (l.map vB).toArray) (.agg (m.map vB).toArray)).run Tryd.prog w = .ok (decide (l = m)) w := by
  obtain ⟨i, hi⟩ := hsh_row
  rw [run_equalIn_array w 9999 (l.map vB).toArray (m.map vB).toArray Tryd.underlying33 hi, hsh_cells, run_eqItems_bs w 9998 l m _ (by simp [hl, hm])]
  congr 1
  rw [decide_eq_decide]
  constructor
  · intro h
    refine List.ext_getElem? fun j => ?_
    by_cases hj : j < 32
    · exact h j (by simp [hj])
    · rw [List.getElem?_eq_none (by omega), List.getElem?_eq_none (by omega)]
  · rintro rfl; simp
theorem run_eql_hsh (w : World) (l m : List UInt8) (hl : l.length = 32) (hm : m.length = 32) :
    (binOp .eql 33 (.agg (l.map vB).toArray) (.agg (m.map vB).toArray)).run Tryd.prog w = .ok (.bool (decide (l = m))) w := by
  rw [run_eql_struct, run_equalIn_hsh w l m hl hm]; rfl
theorem run_neq_hsh (w : World) (l m : List UInt8) (hl : l.length = 32) (hm : m.length = 32) :
    (binOp .neq 33 (.agg (l.map vB).toArray) (.agg (m.map vB).toArray)).run Tryd.prog w = .ok (.bool (!decide (l = m))) w := by
  rw [run_neq_struct, run_equalIn_hsh w l m hl hm]; rfl
theorem run_eqGuard_hsh (w : World) (op : BinOp) (x y : Operand) (xs ys : Array Value) : (eqGuard op 33 x y (.agg xs) (.agg ys)).run Tryd.prog w = .ok () w :=
  run_eqGuard_agg w op _ x y xs ys hsh_depth
theorem wpQuiet_loadAt {P : Program} {ops : Array Oper} {C : World → Prop} {Q : Act → Prop} {rest : List Oper} {o : Oper} {a : Act} (ty : TypeId) (x : Operand) (b f : Nat) (cs : Array Value) (hld : ∀ w, C w → (loadVar ty ⟨b, f, none⟩).run P w = .ok (.agg cs) w)
    (hw : Region.wanted o (yielded ops a.tmps) = true) (ho : o.op = .load ty x) (hx : a.eval x = .pointer (some ⟨b, f, none⟩))
    (h : wpQuiet P ops C Q rest (a.put o.dst (.agg cs))) : wpQuiet P ops C Q (o :: rest) a := by
  unfold wpQuiet
  rw [if_pos hw]
  refine ⟨.agg cs, fun w hC => ?_, h⟩
  unfold Oper.quietAt execOp
  simp only [ho, hx, Instr.loadAt, Instr.sureAddr, Sem.run_bind, Sem.run_pure, Result.andThen_ok, hld w hC]
  exact ⟨rfl, rfl⟩
theorem load_hash_drew {w : World} {b o : Nat} {x : List UInt8} (h : w.rangeAt b o (x.map vB)) (hx : x.length = 32) (w' : World) (hC : ∃ q, w' = w.drewN q) :
    (loadVar 33 ⟨b, o, none⟩).run Tryd.prog w' = .ok (.agg (x.map vB).toArray) w' := by
  obtain ⟨q, rfl⟩ := hC
  exact run_loadVar_mid (w.drewN q) b o 33 (x.map vB) _ (fun j v hj => h j v hj) Tryd.underlying33 rfl (by rw [hash_size]; simp [hx])
end Go.Proofs.YtkpcmgacjhjllaaDoor
