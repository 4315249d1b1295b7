/- Steps of a region that draws its order: a text's bytes made, a hash loaded, a slice of one hash made, a hash appended. -/
import Derived.Test.YtkpcmgacjhjllaaDoorEqH
import Derived.Lib.ConvBytes
import Derived.Great.BuildSlice
import Derived.Deep.AppendLies
namespace Go.Proofs.YtkpcmgacjhjllaaDoor
open Go.RowKit

theorem below_bytes (w : World) (b : ByteArray) : Below w.heap.size w (Lib.bytesWorld w 5 b) :=
  ⟨rfl, rfl, rfl, by rw [Lib.bytesWorld_size]; omega, fun k hk => Lib.bytesWorld_at_old w 5 b k hk⟩
theorem bytes_range (w : World) (T : List UInt8) : (Lib.bytesWorld w 5 ⟨T.toArray⟩).rangeAt w.heap.size 0 (T.map vB) := fun j v hj => by
  have hjl : j < T.length := by
    have := (List.getElem?_eq_some_iff.1 hj).1
    simpa using this
  rw [Nat.zero_add, Lib.bytesWorld_cell w 5 ⟨T.toArray⟩ j hjl]
  rw [← hj, List.getElem?_map]
  simp [List.getD, hjl, vB, n8]
section
variable {ops : Array Oper} {o : Oper} {a : Act} {w : World} {K : Act → World → Prop} {Q : Exit → Act → World → Prop} {E : Prop}
theorem step_conv (hgd : o.guard = none) (x : Operand) (ho : o.op = .convert 9 25 x) (T : List UInt8) (hx : a.eval x = .string ⟨T.toArray⟩) (hT : T.length = 32)
    (h : K (a.put o.dst (.slice (some ⟨w.heap.size, 0, none⟩) 32 (grownCap w 32 0 5))) (Lib.bytesWorld w 5 ⟨T.toArray⟩)) :
    if Region.wanted o (yielded ops a.tmps) = true then Oper.wp Tryd.prog o a w K Q else E := by
  have hw : Region.wanted o (yielded ops a.tmps) = true := by simp [Region.wanted, hgd]
  rw [if_pos hw]
  have hr := Lib.run_convert_string_bytes (P := Tryd.prog) w 9 25 5 ⟨T.toArray⟩ Tryd.underlying9 Tryd.underlying25 Tryd.underlying5
  have e : (⟨T.toArray⟩ : ByteArray).size = 32 := hT
  rw [e] at hr
  unfold Oper.wp execOp
  simp only [ho, hx, Sem.run_bind, hr, Result.andThen_ok]
  exact h
theorem step_loadH (hgd : o.guard = none) (x : Operand) (ho : o.op = .load 33 x) (b : Nat) (hx : a.eval x = .pointer (some ⟨b, 0, none⟩)) (T : List UInt8) (hrg : w.rangeAt b 0 (T.map vB)) (hT : T.length = 32)
    (h : K (a.put o.dst (.agg (T.map vB).toArray)) w) : if Region.wanted o (yielded ops a.tmps) = true then Oper.wp Tryd.prog o a w K Q else E := by
  have hw : Region.wanted o (yielded ops a.tmps) = true := by simp [Region.wanted, hgd]
  rw [if_pos hw]
  exact wp_load_mid 33 x ho b 0 hx (T.map vB) _ hrg Tryd.underlying33 rfl (by rw [hash_size]; simp [hT]) h
theorem info_hash : (Tryd.prog.info? 33).map (fun i => (i.zero, i.size, i.bytes)) = some (some (.agg ((List.replicate 32 0).map vB).toArray), 32, 32) := by kernel_rfl
theorem fold_set : ∀ (l : List Value) (k : Nat) (z : Array Value), k + l.length ≤ z.size →
    ((l.zipIdx k).foldl (fun (cs : Array Value) (p : Value × Nat) => cs.setIfInBounds (0 * 32 + p.2) p.1) z).toList = z.toList.take k ++ l ++ z.toList.drop (k + l.length)
  | [], k, z, _ => by simp
  | c :: l, k, z, h => by
    simp only [List.length_cons] at h
    rw [List.zipIdx_cons, List.foldl_cons, fold_set l (k + 1) _ (by simp; omega)]
    have hk : k < z.toList.length := by simp; omega
    have e1 : (z.setIfInBounds (0 * 32 + k) c).toList = z.toList.set k c := by simp
    have e2 : (z.toList.set k c).take (k + 1) = z.toList.take k ++ [c] := by
      rw [List.take_succ_eq_append_getElem (by simpa using hk), List.take_set_of_le (Nat.le_refl _)]
      simp
    have e3 : (z.toList.set k c).drop (k + 1 + l.length) = z.toList.drop (k + (l.length + 1)) := by
      rw [List.drop_set_of_lt (by omega)]
      congr 1; omega
    rw [e1, e2, e3]
    simp
theorem fill_one (T : List UInt8) (hT : T.length = 32) (z : Array Value) (hz : z.size = 32) : Instr.fill (fun i => some (i * 32, 32)) z [(0, .agg (T.map vB).toArray)] = some (T.map vB).toArray := by
  have hs : (Value.agg (T.map vB).toArray).cells = (T.map vB).toArray := rfl
  simp only [Instr.fill, hs]
  rw [if_neg (by simp [hT, hz])]
  refine congrArg some (Array.ext' ?_)
  have h := fold_set (T.map vB) 0 z (by simp [hT, hz])
  rw [List.take_zero, List.nil_append, List.drop_of_length_le (by simp [hT, hz]), List.append_nil] at h
  rw [← Array.foldl_toList]
  simpa using h
theorem step_build (hgd : o.guard = none) (x : Operand) (ho : o.op = .buildSlice 22 1 #[(0, x)]) (T : List UInt8) (hx : a.eval x = .agg (T.map vB).toArray) (hT : T.length = 32)
    (h : K (a.put o.dst (.slice (some ⟨w.heap.size, 0, none⟩) 1 1)) (w.alloc (.cells (T.map vB).toArray 33))) : if Region.wanted o (yielded ops a.tmps) = true then Oper.wp Tryd.prog o a w K Q else E := by
  have hw : Region.wanted o (yielded ops a.tmps) = true := by simp [Region.wanted, hgd]
  rw [if_pos hw]
  obtain ⟨i0, hi, h1, h2, h3⟩ := info_parts info_hash
  refine wp_buildSlice 22 33 1 _ ho _ i0 _ Tryd.underlying22 hi h1 (by rw [h2]; decide) (by rw [h2]; decide) ?_ h
  simp only [h2, List.map_toArray, List.map_cons, List.map_nil, hx]
  exact fill_one T hT _ (by simp)
end
end Go.Proofs.YtkpcmgacjhjllaaDoor
