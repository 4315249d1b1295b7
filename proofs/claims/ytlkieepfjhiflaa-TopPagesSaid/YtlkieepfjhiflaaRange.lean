/- 'for n, l := range wait': the step, whichever entry the tape says. No condition. -/
import Derived.Test.YtlkieepfjhiflaaMapRun
import Derived.Maps.RangeWalk
namespace Go.Proofs.Ytlkieepfjhiflaa
open Go.RowKit Go.ChangeMaps

/-- A round over the map in block bm, by the iterator in block r: L has come. -/
structure Rng (w : World) (r bm cl : Nat) (T L : List Ent) : Prop where
  it : w.heap[r]? = some (.mapIter (some bm) cl (L.map (·.born)).toArray cl)
  map : w.heap[bm]? = some (.map (T.map Ent.obj).toArray cl)
  lt : ∀ e ∈ T, e.born < cl
  nd : (T.map (·.born)).Nodup
  sub : ∀ e ∈ L, e ∈ T
  ne : r ≠ bm
def toCome (T L : List Ent) : Nat := (leftOf (T.map Ent.obj).toArray (L.map (·.born)).toArray).size
theorem born_inj {T : List Ent} (h : (T.map (·.born)).Nodup) {x y : Ent} (hx : x ∈ T) (hy : y ∈ T) (e : x.born = y.born) : x = y := by
  induction T with
  | nil => cases hx
  | cons t T ih =>
    rw [List.map_cons, List.nodup_cons] at h
    rcases List.mem_cons.1 hx with h1 | h1 <;> rcases List.mem_cons.1 hy with h2 | h2
    · rw [h1, h2]
    · exact absurd (List.mem_map.2 ⟨y, h2, by rw [← e, h1]⟩) h.1
    · exact absurd (List.mem_map.2 ⟨x, h1, by rw [e, h2]⟩) h.1
    · exact ih h.2 h1 h2
theorem Rng.fr {w w' : World} {r bm cl : Nat} {T L : List Ent} {S : List Nat} (h : Rng w r bm cl T L) (hf : Fr S w w') (h1 : r ∉ S) (h2 : bm ∉ S) : Rng w' r bm cl T L :=
  ⟨hf.heap h1 h.it, hf.heap h2 h.map, h.lt, h.nd, h.sub, h.ne⟩
theorem wpList_next_ents {w : World} {ops : Array Oper} {rest : List Oper} {o : Oper} {a : Act} {Q : Exit → Act → World → Prop} {r bm cl : Nat} {T L : List Ent}
    (hg : o.guard = none) (it : Operand) (hop : o.op = Op.next it false) (hit : a.eval it = .pointer (some ⟨r, 0, none⟩)) (h : Rng w r bm cl T L)
    (hDone : (∀ e ∈ T, e ∈ L) → wpList Try.prog ops Q rest (a.put o.dst (.tuple #[.bool false])) w)
    (hMore : ∀ (e : Ent) (w' : World), e ∈ T → e ∉ L → Rng w' r bm cl T (L ++ [e]) → Fr [r] w w' → toCome T (L ++ [e]) < toCome T L →
      (Instr.entry (.pointer (some ⟨r, 0, none⟩))).run Try.prog w' = .ok (.tuple #[.int .i64 (e.k : Int), e.sl]) w' → wpList Try.prog ops Q rest (a.put o.dst (.tuple #[.bool true, .int .i64 (e.k : Int), e.sl])) w') :
    wpList Try.prog ops Q (o :: rest) a w := by
  refine wpList_plain hg fun K' hK' => ?_
  unfold Oper.wp
  have hold : ∀ x ∈ (T.map Ent.obj).toArray.toList, x.born < cl := fun x hx => by
    obtain ⟨e, he, rfl⟩ := List.mem_map.1 (by simpa using hx)
    exact h.lt e he
  have hnd : ((T.map Ent.obj).toArray.toList.map (·.born)).Nodup := by
    have e1 : (T.map Ent.obj).toArray.toList.map (·.born) = T.map (·.born) := by simp [Ent.obj, Function.comp]
    rw [e1]; exact h.nd
  rcases run_next_at (P := Try.prog) w o.type r bm cl cl _ _ cl h.it h.map hold (Nat.le_refl _) with ⟨h0, hrun⟩ | ⟨e1, he1, w1, hw1, hrun⟩
  · simp [execOp, hop, hit, hrun, Result.andThen]
    refine hK' _ _ (hDone fun e he => ?_)
    by_cases hL : e ∈ L
    · exact hL
    · exfalso
      have hm : e.obj ∈ (leftOf (T.map Ent.obj).toArray (L.map (·.born)).toArray).toList := by
        unfold leftOf
        simp only [Array.toList_filter, List.mem_filter]
        refine ⟨by simpa using List.mem_map.2 ⟨e, he, rfl⟩, ?_⟩
        rw [Bool.not_eq_true', Bool.eq_false_iff]
        intro hc
        rw [Array.contains_iff_mem] at hc
        obtain ⟨x, hx, hb⟩ := List.mem_map.1 (by simpa using hc)
        exact hL (born_inj h.nd (h.sub x hx) he hb ▸ hx)
      have : (leftOf (T.map Ent.obj).toArray (L.map (·.born)).toArray).toList.length = 0 := by simpa using h0
      rw [List.eq_nil_of_length_eq_zero this] at hm
      cases hm
  · obtain ⟨hmem, hun⟩ := mem_left he1
    have hsh := left_shrinks _ _ e1 he1
    obtain ⟨e, he, rfl⟩ := List.mem_map.1 (by simpa using hmem)
    have hit1 : w1.heap[r]? = some (.mapIter (some bm) cl (L.map (·.born)).toArray cl) := by rcases hw1 with rfl | rfl <;> exact h.it
    have hmp1 : w1.heap[bm]? = some (.map (T.map Ent.obj).toArray cl) := by rcases hw1 with rfl | rfl <;> exact h.map
    have hseen : (L.map (·.born)).toArray.push e.obj.born = ((L ++ [e]).map (·.born)).toArray := by simp [Ent.obj]
    rw [hseen] at hrun hsh
    have hnL : e ∉ L := fun hL => by
      have : (L.map (·.born)).toArray.contains e.obj.born = true := by
        simp only [Ent.obj]
        rw [Array.contains_iff_mem] <;> simp
        exact ⟨e, hL, rfl⟩
      rw [this] at hun; cases hun
    have hF : Fr [r] w (setBlock w1 r (.mapIter (some bm) cl ((L ++ [e]).map (·.born)).toArray cl)) := by
      have h1 : Fr [r] w w1 := by rcases hw1 with rfl | rfl; exact Fr.refl _ _; exact Fr.drew _
      exact h1.setBlock (.inl (by simp)) _
    have hR : Rng (setBlock w1 r (.mapIter (some bm) cl ((L ++ [e]).map (·.born)).toArray cl)) r bm cl T (L ++ [e]) := by
      refine ⟨heap_setBlock hit1, hF.heap (by simpa using fun q => h.ne q.symm) h.map, h.lt, h.nd, fun x hx => ?_, h.ne⟩
      rcases List.mem_append.1 hx with hx | hx
      · exact h.sub x hx
      · simp at hx; subst hx; exact he
    have hx := run_entry_at (P := Try.prog) (setBlock w1 r (.mapIter (some bm) cl ((L ++ [e]).map (·.born)).toArray cl)) r bm cl (L.map (·.born)).toArray (T.map Ent.obj).toArray cl e.obj (by rw [hseen]; exact hR.it) hR.map (by simpa using List.mem_map.2 ⟨e, he, rfl⟩) hnd
    generalize setBlock w1 r (.mapIter (some bm) cl ((L ++ [e]).map (·.born)).toArray cl) = W2 at hrun hF hR hx
    simp [execOp, hop, hit, hrun, Result.andThen]
    exact hK' _ _ (hMore e _ he hnL hR hF hsh hx)
end Go.Proofs.Ytlkieepfjhiflaa
