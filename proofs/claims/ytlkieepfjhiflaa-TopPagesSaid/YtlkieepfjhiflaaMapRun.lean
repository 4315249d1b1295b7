/- What a look-up, a store, a 'clear' give at a disk's map of waiting writes. No condition. -/
import Derived.Test.YtlkieepfjhiflaaDk
import Derived.ChangeMaps5
import Derived.MapKept
import Derived.Maps.RangeRun
namespace Go.Proofs.Ytlkieepfjhiflaa
open Go.RowKit Go.ChangeMaps Go.MapKept

theorem findNow_miss (n : Nat) : ∀ (l : List Ent) (i : Nat), (∀ e ∈ l, e.k ≠ n) → Instr.findNow (.int .i64) (.int .i64 (n : Int)) (l.map Ent.obj) i = some none
  | [], _, _ => rfl
  | e :: l, i, h => by
    have h0 : ¬ n = e.k := fun q => h e (by simp) q.symm
    have h1 : ((n : Int) == (e.k : Int)) = false := by simp; omega
    simp only [List.map_cons, Instr.findNow, Ent.obj, Instr.sameNow, if_true, h1]
    exact findNow_miss n l (i + 1) (fun x hx => h x (by simp [hx]))
theorem findNow_hit (n : Nat) (e0 : Ent) (h0 : e0.k = n) : ∀ (l : List Ent) (i : Nat), e0 ∈ l → l.Pairwise (fun a b => a.k < b.k) → ∃ j, Instr.findNow (.int .i64) (.int .i64 (n : Int)) (l.map Ent.obj) i = some (some (j, e0.sl))
  | [], _, h, _ => by cases h
  | e :: l, i, h, hp => by
    rcases List.mem_cons.1 h with rfl | h
    · have h1 : ((n : Int) == (e0.k : Int)) = true := by simp; omega
      exact ⟨i, by simp only [List.map_cons, Instr.findNow, Ent.obj, Instr.sameNow, if_true, h1]⟩
    · have hlt := (List.pairwise_cons.1 hp).1 e0 h
      have h1 : ((n : Int) == (e.k : Int)) = false := by simp; omega
      obtain ⟨j, hj⟩ := findNow_hit n e0 h0 l (i + 1) h (List.pairwise_cons.1 hp).2
      exact ⟨j, by simp only [List.map_cons, Instr.findNow, Ent.obj, Instr.sameNow, if_true, h1]; exact hj⟩
section
variable {w : World} {bm cl : Nat} {T : List Ent}
theorem run_look_none (hb : w.heap[bm]? = some (.map (T.map Ent.obj).toArray cl)) (n : Nat) (h : ∀ e ∈ T, e.k ≠ n) :
    (Instr.lookup 66 (.map (some bm)) (.int .i64 (n : Int)) false).run Try.prog w = .ok (.slice none 0 0) w := by
  have hk : IsKey (.int .i64) (.int .i64 (n : Int)) := by simp [IsKey]
  simp [Instr.lookup, run_underlying Try.underlying66, Result.andThen, Go.MapKept.run_getObj_map hb, run_checkKey Try.underlying3 hk, run_findKey Try.underlying3 (findNow_miss n T 0 h), Try.zeroValue58]
theorem run_look_some (hb : w.heap[bm]? = some (.map (T.map Ent.obj).toArray cl)) (e : Ent) (he : e ∈ T) (hp : T.Pairwise (fun a b => a.k < b.k)) :
    (Instr.lookup 66 (.map (some bm)) (.int .i64 (e.k : Int)) false).run Try.prog w = .ok e.sl w := by
  have hk : IsKey (.int .i64) (.int .i64 (e.k : Int)) := by simp [IsKey]
  obtain ⟨j, hj⟩ := findNow_hit e.k e rfl T 0 he hp
  simp [Instr.lookup, run_underlying Try.underlying66, Result.andThen, Go.MapKept.run_getObj_map hb, run_checkKey Try.underlying3 hk, run_findKey Try.underlying3 hj]
theorem run_update (hb : w.heap[bm]? = some (.map (T.map Ent.obj).toArray cl)) (n : Nat) (h : ∀ e ∈ T, e.k ≠ n) (sl v : Value) :
    (Instr.mapUpdate 66 (.map (some bm)) (.int .i64 (n : Int)) sl).run Try.prog w = .ok () (setBlock w bm (.map ((T ++ [(⟨n, sl, v, cl⟩ : Ent)]).map Ent.obj).toArray (cl + 1))) := by
  have hk : IsKey (.int .i64) (.int .i64 (n : Int)) := by simp [IsKey]
  have hs := run_setObj_map (P := Try.prog) (.map ((T.map Ent.obj).toArray.push { key := .int .i64 (n : Int), val := sl, born := cl }) (cl + 1)) hb
  simp only [Instr.mapUpdate, Sem.run_bind, run_underlying Try.underlying66, Result.andThen, Go.MapKept.run_getObj_map hb, run_checkKey Try.underlying3 hk, run_findKey Try.underlying3 (findNow_miss n T 0 h)]
  rw [hs]
  simp [setBlock, Ent.obj]
theorem run_clear (hb : w.heap[bm]? = some (.map (T.map Ent.obj).toArray cl)) :
    (Builtin.clear_ #[66] 0 #[.map (some bm)]).run Try.prog w = .ok (.tuple #[]) (setBlock w bm (.map #[] cl)) := by
  have hs := run_setObj_map (P := Try.prog) (.map #[] cl) hb
  simp [Builtin.clear_, run_underlying Try.underlying66, Result.andThen, Go.MapKept.run_getObj_map hb, hs, setBlock]
end
theorem heap_setBlock {w : World} {b : Nat} {o o' : Obj} (hb : w.heap[b]? = some o) : (setBlock w b o').heap[b]? = some o' := (heap_set hb).1
theorem Fr.setBlock {S : List Nat} {a w : World} (h : Fr S a w) {b : Nat} (hb : b ∈ S ∨ a.heap.size ≤ b) (o : Obj) : Fr S a (setBlock w b o) :=
  ⟨h.os, h.tape, h.output, by simpa [ChangeMaps.setBlock] using h.size, fun k hk hn => by
    have e : (ChangeMaps.setBlock w b o).heap[k]? = w.heap[k]? := by
      simp only [ChangeMaps.setBlock]
      rw [Array.getElem?_setIfInBounds_ne (fun e => by subst e; exact hb.elim hn (fun hle => by omega))]
    exact e.trans (h.block k hk hn)⟩
end Go.Proofs.Ytlkieepfjhiflaa
