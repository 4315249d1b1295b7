/- The map of pages that Commit makes: look-ups, stores. -/
import Derived.Test.YtlkieepfjhiflaaPgs
import Derived.Maps.OwnSet
import Derived.Lib.SlKeysI
namespace Go.Proofs.Ytlkieepfjhiflaa
open Go.RowKit Go.ChangeMaps Go.MapKept

theorem findNow_hit2 (e0 : Ent) : ∀ (l : List Ent) (i : Nat), e0 ∈ l → (l.map (·.k)).Nodup → ∃ j, Instr.findNow (.int .i64) (.int .i64 (e0.k : Int)) (l.map Ent.obj) i = some (some (j, e0.sl))
  | [], _, h, _ => by cases h
  | e :: l, i, h, hp => by
    rw [List.map_cons, List.nodup_cons] at hp
    rcases List.mem_cons.1 h with rfl | h
    · have h1 : ((e0.k : Int) == (e0.k : Int)) = true := by simp
      exact ⟨i, by simp only [List.map_cons, Instr.findNow, Ent.obj, Instr.sameNow, if_true, h1]⟩
    · have hne : ¬ e0.k = e.k := fun q => hp.1 (by rw [← q]; exact List.mem_map.2 ⟨e0, h, rfl⟩)
      have h1 : ((e0.k : Int) == (e.k : Int)) = false := by simp; omega
      obtain ⟨j, hj⟩ := findNow_hit2 e0 l (i + 1) h hp.2
      exact ⟨j, by simp only [List.map_cons, Instr.findNow, Ent.obj, Instr.sameNow, if_true, h1]; exact hj⟩
section
variable {w : World} {bm cl : Nat} {T : List Ent}
theorem run_pg_none (hb : w.heap[bm]? = some (.map (T.map Ent.obj).toArray cl)) (n : Nat) (h : ∀ e ∈ T, e.k ≠ n) :
    (Instr.lookup 100 (.map (some bm)) (.int .i64 (n : Int)) false).run Try.prog w = .ok (.slice none 0 0) w := by
  have hk : IsKey (.int .i64) (.int .i64 (n : Int)) := by simp [IsKey]
  simp [Instr.lookup, run_underlying Try.underlying100, Result.andThen, Go.MapKept.run_getObj_map hb, run_checkKey Try.underlying3 hk, run_findKey Try.underlying3 (findNow_miss n T 0 h), Try.zeroValue22]
theorem run_pg_some (hb : w.heap[bm]? = some (.map (T.map Ent.obj).toArray cl)) (e : Ent) (he : e ∈ T) (hp : (T.map (·.k)).Nodup) :
    (Instr.lookup 100 (.map (some bm)) (.int .i64 (e.k : Int)) false).run Try.prog w = .ok e.sl w := by
  have hk : IsKey (.int .i64) (.int .i64 (e.k : Int)) := by simp [IsKey]
  obtain ⟨j, hj⟩ := findNow_hit2 e T 0 he hp
  simp [Instr.lookup, run_underlying Try.underlying100, Result.andThen, Go.MapKept.run_getObj_map hb, run_checkKey Try.underlying3 hk, run_findKey Try.underlying3 hj]
theorem run_pg_update (hb : w.heap[bm]? = some (.map (T.map Ent.obj).toArray cl)) (n : Nat) (h : ∀ e ∈ T, e.k ≠ n) (sl v : Value) :
    (Instr.mapUpdate 100 (.map (some bm)) (.int .i64 (n : Int)) sl).run Try.prog w = .ok () (setBlock w bm (.map ((T ++ [(⟨n, sl, v, cl⟩ : Ent)]).map Ent.obj).toArray (cl + 1))) := by
  have hk : IsKey (.int .i64) (.int .i64 (n : Int)) := by simp [IsKey]
  have hs := run_setObj_map (P := Try.prog) (.map ((T.map Ent.obj).toArray.push { key := .int .i64 (n : Int), val := sl, born := cl }) (cl + 1)) hb
  simp only [Instr.mapUpdate, Sem.run_bind, run_underlying Try.underlying100, Result.andThen, Go.MapKept.run_getObj_map hb, run_checkKey Try.underlying3 hk, run_findKey Try.underlying3 (findNow_miss n T 0 h)]
  rw [hs]
  simp [setBlock, Ent.obj]
end
/-- The map, as the shelf's contracts want it; its keys. -/
theorem pg_owns {w : World} {bm cl : Nat} {T : List Ent} (hb : w.heap[bm]? = some (.map (T.map Ent.obj).toArray cl)) (hborn : ∀ e ∈ T, e.born < cl) (hnd : (T.map (·.born)).Nodup) (hkn : (T.map (·.k)).Nodup) (hk : ∀ e ∈ T, e.k < 100000) (hl : T.length ≤ 4096) :
    ∃ D0 : DataW Nat, w.ownsMap Try.prog 3 (fun _ => some (.nil, [])) bm T.length D0 ∧ Maps.size D0 ≤ 4096 ∧ (intKeys D0).Perm (T.map fun e => (e.k : Int)) := by
  have hkey : ∀ e ∈ T, keyOf Try.prog 3 (.int .i64 (e.k : Int)) = some (.int .i64 (e.k : Int)) := fun e he => by
    have := hk e he
    simp [keyOf, Try.underlying3, mapKey, Lit.wf, IntKind.min, IntKind.max, IntKind.signed, IntKind.bits]
    omega
  have hread : ∀ x ∈ ((T.map Ent.obj).toArray).toList, ∃ y : Lit × DataW Nat, Go.WideElems.rd Try.prog 3 (fun _ => some (.nil, [])) x = some y := fun x hx => by
    obtain ⟨e, he, rfl⟩ := List.mem_map.1 (by simpa using hx)
    exact ⟨(.int .i64 (e.k : Int), .nil), by simp [Go.WideElems.rd, Ent.obj, hkey e he]⟩
  refine ⟨_, ⟨(T.map Ent.obj).toArray, cl, hb, ⟨by simp [maxLen]; omega, ?_, hread⟩, by simp, rfl⟩, ?_, ?_⟩
  · refine ⟨fun x hx => ?_, ?_, ?_⟩
    · obtain ⟨e, he, rfl⟩ := List.mem_map.1 (by simpa using hx)
      exact hborn e he
    · have e : (T.map Ent.obj).toArray.toList.map (·.born) = T.map (·.born) := by simp [Ent.obj, Function.comp]
      rw [e]; exact hnd
    · have e : (T.map Ent.obj).toArray.toList.map (·.key) = (T.map (·.k)).map (fun (k : Nat) => Value.int .i64 (k : Int)) := by simp [Ent.obj, Function.comp]
      rw [e]
      exact hkn.map (f := fun (k : Nat) => Value.int .i64 (k : Int)) (fun a b hab h => hab (by simp only [Value.int.injEq, true_and] at h; omega))
  · show List.length _ ≤ 4096
    rw [(Go.WideShapes.sorted_perm _).length_eq]
    simpa using hl
  · refine ((Go.WideShapes.sorted_perm _).map _).trans (List.Perm.of_eq ?_)
    rw [List.map_map, List.map_map]
    refine List.map_congr_left fun e he => ?_
    have hrd : Go.WideElems.rd Try.prog 3 (fun _ => some ((.nil : DataW Nat), [])) (Ent.obj e) = some (.int .i64 (e.k : Int), .nil) := by simp [Go.WideElems.rd, Ent.obj, hkey e he]
    simp only [Function.comp, Go.WideElems.rg_of hrd]
    rfl
end Go.Proofs.Ytlkieepfjhiflaa
