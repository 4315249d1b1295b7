/- What a look-up, a store, a 'clear' give at a disk's map of waiting writes. No condition. -/
import Derived.Test.YtcblfkojkdaepaaGreatDk
import Derived.ChangeMaps5
import Derived.MapKept
import Derived.Maps.RangeRun
import Derived.Maps.RangeWalk
namespace Go.Proofs.YtcblfkojkdaepaaGreat
open Go.RowKit Go.ChangeMaps Go.MapKept

theorem findNow_miss (n : Nat) : ∀ (l : List Ent) (i : Nat), (∀ e ∈ l, e.k ≠ n) → Instr.findNow (.int .i64) (.int .i64 (n : Int)) (l.map Ent.obj) i = some none
  | [], _, _ => rfl
  | e :: l, i, h => by
    have h0 : ¬ n = e.k := fun q => h e (by simp) q.symm
    have h1 : ((n : Int) == (e.k : Int)) = false := by simp; omega
    simp only [List.map_cons, Instr.findNow, Ent.obj, Instr.sameNow, if_true, h1]
    exact findNow_miss n l (i + 1) (fun x hx => h x (by simp [hx]))
theorem findNow_hit (n : Nat) (e0 : Ent) (h0 : e0.k = n) : ∀ (l : List Ent) (i : Nat), e0 ∈ l → l.Pairwise (fun a b => a.k < b.k) → ∃ j, Instr.findNow (.int .i64) (.int .i64 (n : Int)) (l.map Ent.obj) i = some (some (j, e0.sl))
  | [], _, h, _ => by cases h
  | e :: l, i, h, hp => by
    rcases List.mem_cons.1 h with rfl | h
    · have h1 : ((n : Int) == (e0.k : Int)) = true := by simp; omega
      exact ⟨i, by simp only [List.map_cons, Instr.findNow, Ent.obj, Instr.sameNow, if_true, h1]⟩
    · have hlt := (List.pairwise_cons.1 hp).1 e0 h
      have h1 : ((n : Int) == (e.k : Int)) = false := by simp; omega
      obtain ⟨j, hj⟩ := findNow_hit n e0 h0 l (i + 1) h (List.pairwise_cons.1 hp).2
      exact ⟨j, by simp only [List.map_cons, Instr.findNow, Ent.obj, Instr.sameNow, if_true, h1]; exact hj⟩
section
variable {w : World} {bm cl : Nat} {T : List Ent}
theorem run_look_none (hb : w.heap[bm]? = some (.map (T.map Ent.obj).toArray cl)) (n : Nat) (h : ∀ e ∈ T, e.k ≠ n) :
    (Instr.lookup 109 (.map (some bm)) (.int .i64 (n : Int)) false).run Tryz.prog w = .ok (.slice none 0 0) w := by
  have hk : IsKey (.int .i64) (.int .i64 (n : Int)) := by simp [IsKey]
  simp [Instr.lookup, run_underlying Tryz.underlying109, Result.andThen, Go.MapKept.run_getObj_map hb, run_checkKey Tryz.underlying3 hk, run_findKey Tryz.underlying3 (findNow_miss n T 0 h), Tryz.zeroValue51]
theorem run_look_some (hb : w.heap[bm]? = some (.map (T.map Ent.obj).toArray cl)) (e : Ent) (he : e ∈ T) (hp : T.Pairwise (fun a b => a.k < b.k)) :
    (Instr.lookup 109 (.map (some bm)) (.int .i64 (e.k : Int)) false).run Tryz.prog w = .ok e.sl w := by
  have hk : IsKey (.int .i64) (.int .i64 (e.k : Int)) := by simp [IsKey]
  obtain ⟨j, hj⟩ := findNow_hit e.k e rfl T 0 he hp
  simp [Instr.lookup, run_underlying Tryz.underlying109, Result.andThen, Go.MapKept.run_getObj_map hb, run_checkKey Tryz.underlying3 hk, run_findKey Tryz.underlying3 hj]
theorem run_update (hb : w.heap[bm]? = some (.map (T.map Ent.obj).toArray cl)) (n : Nat) (h : ∀ e ∈ T, e.k ≠ n) (sl v : Value) :
    (Instr.mapUpdate 109 (.map (some bm)) (.int .i64 (n : Int)) sl).run Tryz.prog w = .ok () (setBlock w bm (.map ((T ++ [(⟨n, sl, v, cl⟩ : Ent)]).map Ent.obj).toArray (cl + 1))) := by
  have hk : IsKey (.int .i64) (.int .i64 (n : Int)) := by simp [IsKey]
  have hs := run_setObj_map (P := Tryz.prog) (.map ((T.map Ent.obj).toArray.push { key := .int .i64 (n : Int), val := sl, born := cl }) (cl + 1)) hb
  simp only [Instr.mapUpdate, Sem.run_bind, run_underlying Tryz.underlying109, Result.andThen, Go.MapKept.run_getObj_map hb, run_checkKey Tryz.underlying3 hk, run_findKey Tryz.underlying3 (findNow_miss n T 0 h)]
  rw [hs]
  simp [setBlock, Ent.obj]
theorem run_clear (hb : w.heap[bm]? = some (.map (T.map Ent.obj).toArray cl)) :
    (Builtin.clear_ #[109] 0 #[.map (some bm)]).run Tryz.prog w = .ok (.tuple #[]) (setBlock w bm (.map #[] cl)) := by
  have hs := run_setObj_map (P := Tryz.prog) (.map #[] cl) hb
  simp [Builtin.clear_, run_underlying Tryz.underlying109, Result.andThen, Go.MapKept.run_getObj_map hb, hs, setBlock]
end
theorem heap_setBlock {w : World} {b : Nat} {o o' : Obj} (hb : w.heap[b]? = some o) : (setBlock w b o').heap[b]? = some o' := (heap_set hb).1
theorem Fr.setBlock {S : List Nat} {a w : World} (h : Fr S a w) {b : Nat} (hb : b ∈ S ∨ a.heap.size ≤ b) (o : Obj) : Fr S a (setBlock w b o) :=
  ⟨h.os, h.tape, h.output, by simpa [ChangeMaps.setBlock] using h.size, fun k hk hn => by
    have e : (ChangeMaps.setBlock w b o).heap[k]? = w.heap[k]? := by
      simp only [ChangeMaps.setBlock]
      rw [Array.getElem?_setIfInBounds_ne (fun e => by subst e; exact hb.elim hn (fun hle => by omega))]
    exact e.trans (h.block k hk hn)⟩
end Go.Proofs.YtcblfkojkdaepaaGreat
/- 'for n, l := range wait': the step, whichever entry the tape says. No condition. -/
namespace Go.Proofs.YtcblfkojkdaepaaGreat
open Go.RowKit Go.ChangeMaps

/-- A round over the map in block bm, by the iterator in block r: L has come. -/
structure Rng (w : World) (r bm cl : Nat) (T L : List Ent) : Prop where
  it : w.heap[r]? = some (.mapIter (some bm) cl (L.map (·.born)).toArray cl)
  map : w.heap[bm]? = some (.map (T.map Ent.obj).toArray cl)
  lt : ∀ e ∈ T, e.born < cl
  nd : (T.map (·.born)).Nodup
  sub : ∀ e ∈ L, e ∈ T
  ne : r ≠ bm
def toCome (T L : List Ent) : Nat := (leftOf (T.map Ent.obj).toArray (L.map (·.born)).toArray).size
theorem born_inj {T : List Ent} (h : (T.map (·.born)).Nodup) {x y : Ent} (hx : x ∈ T) (hy : y ∈ T) (e : x.born = y.born) : x = y := by
  induction T with
  | nil => cases hx
  | cons t T ih =>
    rw [List.map_cons, List.nodup_cons] at h
    rcases List.mem_cons.1 hx with h1 | h1 <;> rcases List.mem_cons.1 hy with h2 | h2
    · rw [h1, h2]
    · exact absurd (List.mem_map.2 ⟨y, h2, by rw [← e, h1]⟩) h.1
    · exact absurd (List.mem_map.2 ⟨x, h1, by rw [e, h2]⟩) h.1
    · exact ih h.2 h1 h2
theorem Rng.fr {w w' : World} {r bm cl : Nat} {T L : List Ent} {S : List Nat} (h : Rng w r bm cl T L) (hf : Fr S w w') (h1 : r ∉ S) (h2 : bm ∉ S) : Rng w' r bm cl T L :=
  ⟨hf.heap h1 h.it, hf.heap h2 h.map, h.lt, h.nd, h.sub, h.ne⟩
theorem wpList_next_ents {w : World} {ops : Array Oper} {rest : List Oper} {o : Oper} {a : Act} {Q : Exit → Act → World → Prop} {r bm cl : Nat} {T L : List Ent}
    (hg : o.guard = none) (it : Operand) (hop : o.op = Op.next it false) (hit : a.eval it = .pointer (some ⟨r, 0, none⟩)) (h : Rng w r bm cl T L)
    (hDone : (∀ e ∈ T, e ∈ L) → wpList Tryz.prog ops Q rest (a.put o.dst (.tuple #[.bool false])) w)
    (hMore : ∀ (e : Ent) (w' : World), e ∈ T → e ∉ L → Rng w' r bm cl T (L ++ [e]) → Fr [r] w w' → toCome T (L ++ [e]) < toCome T L →
      (Instr.entry (.pointer (some ⟨r, 0, none⟩))).run Tryz.prog w' = .ok (.tuple #[.int .i64 (e.k : Int), e.sl]) w' → wpList Tryz.prog ops Q rest (a.put o.dst (.tuple #[.bool true, .int .i64 (e.k : Int), e.sl])) w') :
    wpList Tryz.prog ops Q (o :: rest) a w := by
  refine wpList_plain hg fun K' hK' => ?_
  unfold Oper.wp
  have hold : ∀ x ∈ (T.map Ent.obj).toArray.toList, x.born < cl := fun x hx => by
    obtain ⟨e, he, rfl⟩ := List.mem_map.1 (by simpa using hx)
    exact h.lt e he
  have hnd : ((T.map Ent.obj).toArray.toList.map (·.born)).Nodup := by
    have e1 : (T.map Ent.obj).toArray.toList.map (·.born) = T.map (·.born) := by simp [Ent.obj, Function.comp]
    rw [e1]; exact h.nd
  rcases run_next_at (P := Tryz.prog) w o.type r bm cl cl _ _ cl h.it h.map hold (Nat.le_refl _) with ⟨h0, hrun⟩ | ⟨e1, he1, w1, hw1, hrun⟩
  · simp [execOp, hop, hit, hrun, Result.andThen]
    refine hK' _ _ (hDone fun e he => ?_)
    by_cases hL : e ∈ L
    · exact hL
    · exfalso
      have hm : e.obj ∈ (leftOf (T.map Ent.obj).toArray (L.map (·.born)).toArray).toList := by
        unfold leftOf
        simp only [Array.toList_filter, List.mem_filter]
        refine ⟨by simpa using List.mem_map.2 ⟨e, he, rfl⟩, ?_⟩
        rw [Bool.not_eq_true', Bool.eq_false_iff]
        intro hc
        rw [Array.contains_iff_mem] at hc
        obtain ⟨x, hx, hb⟩ := List.mem_map.1 (by simpa using hc)
        exact hL (born_inj h.nd (h.sub x hx) he hb ▸ hx)
      have : (leftOf (T.map Ent.obj).toArray (L.map (·.born)).toArray).toList.length = 0 := by simpa using h0
      rw [List.eq_nil_of_length_eq_zero this] at hm
      cases hm
  · obtain ⟨hmem, hun⟩ := mem_left he1
    have hsh := left_shrinks _ _ e1 he1
    obtain ⟨e, he, rfl⟩ := List.mem_map.1 (by simpa using hmem)
    have hit1 : w1.heap[r]? = some (.mapIter (some bm) cl (L.map (·.born)).toArray cl) := by rcases hw1 with rfl | rfl <;> exact h.it
    have hmp1 : w1.heap[bm]? = some (.map (T.map Ent.obj).toArray cl) := by rcases hw1 with rfl | rfl <;> exact h.map
    have hseen : (L.map (·.born)).toArray.push e.obj.born = ((L ++ [e]).map (·.born)).toArray := by simp [Ent.obj]
    rw [hseen] at hrun hsh
    have hnL : e ∉ L := fun hL => by
      have : (L.map (·.born)).toArray.contains e.obj.born = true := by
        simp only [Ent.obj]
        rw [Array.contains_iff_mem] <;> simp
        exact ⟨e, hL, rfl⟩
      rw [this] at hun; cases hun
    have hF : Fr [r] w (setBlock w1 r (.mapIter (some bm) cl ((L ++ [e]).map (·.born)).toArray cl)) := by
      have h1 : Fr [r] w w1 := by rcases hw1 with rfl | rfl; exact Fr.refl _ _; exact Fr.drew _
      exact h1.setBlock (.inl (by simp)) _
    have hR : Rng (setBlock w1 r (.mapIter (some bm) cl ((L ++ [e]).map (·.born)).toArray cl)) r bm cl T (L ++ [e]) := by
      refine ⟨heap_setBlock hit1, hF.heap (by simpa using fun q => h.ne q.symm) h.map, h.lt, h.nd, fun x hx => ?_, h.ne⟩
      rcases List.mem_append.1 hx with hx | hx
      · exact h.sub x hx
      · simp at hx; subst hx; exact he
    have hx := run_entry_at (P := Tryz.prog) (setBlock w1 r (.mapIter (some bm) cl ((L ++ [e]).map (·.born)).toArray cl)) r bm cl (L.map (·.born)).toArray (T.map Ent.obj).toArray cl e.obj (by rw [hseen]; exact hR.it) hR.map (by simpa using List.mem_map.2 ⟨e, he, rfl⟩) hnd
    generalize setBlock w1 r (.mapIter (some bm) cl ((L ++ [e]).map (·.born)).toArray cl) = W2 at hrun hF hR hx
    simp [execOp, hop, hit, hrun, Result.andThen]
    exact hK' _ _ (hMore e _ he hnL hR hF hsh hx)
end Go.Proofs.YtcblfkojkdaepaaGreat
/- What a flush makes of the safe sectors. No condition. -/
namespace Go.Proofs.YtcblfkojkdaepaaGreat
open Go.RowKit Go.ChangeMaps

/-- The safe sectors, those of L's numbers turned. -/
def flu (S : List Value) (L : List Ent) : List Value := S.mapIdx fun i x => match L.find? (fun e => e.k == i) with | some e => e.v | none => x
theorem flu_length (S : List Value) (L : List Ent) : (flu S L).length = S.length := by simp [flu]
def pick (L : List Ent) (i : Nat) (x : Value) : Value := match L.find? (fun e => e.k == i) with | some e => e.v | none => x
theorem flu_get (S : List Value) (L : List Ent) (i : Nat) (h : i < (flu S L).length) (h' : i < S.length) : (flu S L)[i] = pick L i S[i] := by
  simp only [flu, List.getElem_mapIdx]; rfl
theorem flu_nil (S : List Value) : flu S [] = S := by
  unfold flu
  refine List.ext_getElem (by simp) fun i h1 h2 => by simp
theorem key_inj {T : List Ent} (h : T.Pairwise (fun a b => a.k < b.k)) {x y : Ent} (hx : x ∈ T) (hy : y ∈ T) (e : x.k = y.k) : x = y := by
  induction T with
  | nil => cases hx
  | cons t T ih =>
    obtain ⟨h0, ht⟩ := List.pairwise_cons.1 h
    rcases List.mem_cons.1 hx with h1 | h1 <;> rcases List.mem_cons.1 hy with h2 | h2
    · rw [h1, h2]
    · have := h0 y h2; subst h1; omega
    · have := h0 x h1; subst h2; omega
    · exact ih ht h1 h2
theorem flu_snoc (S : List Value) (L : List Ent) (e : Ent) (h : ∀ x ∈ L, x.k ≠ e.k) : flu S (L ++ [e]) = (flu S L).set e.k e.v := by
  refine List.ext_getElem (by simp [flu]) fun i h1 h2 => ?_
  rw [List.getElem_set]
  unfold flu
  simp only [List.getElem_mapIdx, List.find?_append]
  by_cases hi : e.k = i
  · subst hi
    have hn : L.find? (fun x => x.k == e.k) = none := by
      rw [List.find?_eq_none]
      intro x hx
      have := h x hx
      simpa using this
    simp [hn]
  · cases L.find? (fun x => x.k == i) with
    | some x => simp [hi]
    | none => simp [hi]
theorem flu_all (S : List Value) (L T : List Ent) (h1 : ∀ e ∈ L, e ∈ T) (h2 : ∀ e ∈ T, e ∈ L) (hp : T.Pairwise (fun a b => a.k < b.k)) : flu S L = flu S T := by
  refine List.ext_getElem (by simp [flu]) fun i q1 q2 => ?_
  rw [flu_get _ _ _ q1 (by rw [← flu_length S L]; exact q1), flu_get _ _ _ q2 (by rw [← flu_length S L]; exact q1)]
  unfold pick
  have : L.find? (fun e => e.k == i) = T.find? (fun e => e.k == i) := by
    cases hL : L.find? (fun e => e.k == i) with
    | none =>
      symm
      rw [List.find?_eq_none] at hL ⊢
      exact fun x hx => hL x (h2 x hx)
    | some x =>
      have hx := List.mem_of_find?_eq_some hL
      have hxk : x.k = i := by simpa using List.find?_some hL
      cases hT : T.find? (fun e => e.k == i) with
      | none =>
        rw [List.find?_eq_none] at hT
        have := hT x (h1 x hx)
        simp [hxk] at this
      | some y =>
        have hy := List.mem_of_find?_eq_some hT
        have hyk : y.k = i := by simpa using List.find?_some hT
        rw [key_inj hp (h1 x hx) hy (by omega)]
  rw [this]
theorem flu_mem {S : List Value} {L : List Ent} {v : Value} (h : v ∈ flu S L) : v ∈ S ∨ ∃ e ∈ L, v = e.v := by
  obtain ⟨i, hi, rfl⟩ := List.mem_iff_getElem.1 h
  rw [flu_get _ _ _ hi (by rw [← flu_length S L]; exact hi)]
  unfold pick
  cases hL : L.find? (fun e => e.k == i) with
  | none => exact .inl (List.getElem_mem _)
  | some x => exact .inr ⟨x, List.mem_of_find?_eq_some hL, rfl⟩
/-- The sector at a number, behind a flush. -/
theorem flu_at {S : List Value} {L : List Ent} (hp : L.Pairwise (fun a b => a.k < b.k)) (e : Ent) (he : e ∈ L) (hk : e.k < S.length) : (flu S L)[e.k]? = some e.v := by
  have hl : e.k < (flu S L).length := by rw [flu_length]; exact hk
  rw [List.getElem?_eq_getElem hl, flu_get _ _ _ hl hk]
  unfold pick
  cases hL : L.find? (fun x => x.k == e.k) with
  | none =>
    rw [List.find?_eq_none] at hL
    have := hL e he
    simp at this
  | some x =>
    have hxk : x.k = e.k := by simpa using List.find?_some hL
    rw [key_inj hp (List.mem_of_find?_eq_some hL) he hxk]
theorem flu_off {S : List Value} {L : List Ent} (i : Nat) (h : ∀ e ∈ L, e.k ≠ i) : (flu S L)[i]? = S[i]? := by
  unfold flu
  rw [List.getElem?_mapIdx]
  have hL : L.find? (fun x => x.k == i) = none := by
    rw [List.find?_eq_none]
    intro x hx
    have := h x hx
    simpa using this
  rw [hL]
  cases S[i]? <;> rfl
end Go.Proofs.YtcblfkojkdaepaaGreat
