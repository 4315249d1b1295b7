/- What a flush makes of the safe sectors. No condition. -/
import Derived.Test.YtlkieepfjhiflaaRange
namespace Go.Proofs.Ytlkieepfjhiflaa
open Go.RowKit Go.ChangeMaps

/-- The safe sectors, those of L's numbers turned. -/
def flu (S : List Value) (L : List Ent) : List Value := S.mapIdx fun i x => match L.find? (fun e => e.k == i) with | some e => e.v | none => x
theorem flu_length (S : List Value) (L : List Ent) : (flu S L).length = S.length := by simp [flu]
def pick (L : List Ent) (i : Nat) (x : Value) : Value := match L.find? (fun e => e.k == i) with | some e => e.v | none => x
theorem flu_get (S : List Value) (L : List Ent) (i : Nat) (h : i < (flu S L).length) (h' : i < S.length) : (flu S L)[i] = pick L i S[i] := by
  simp only [flu, List.getElem_mapIdx]; rfl
theorem flu_nil (S : List Value) : flu S [] = S := by
  unfold flu
  refine List.ext_getElem (by simp) fun i h1 h2 => by simp
theorem key_inj {T : List Ent} (h : T.Pairwise (fun a b => a.k < b.k)) {x y : Ent} (hx : x ∈ T) (hy : y ∈ T) (e : x.k = y.k) : x = y := by
  induction T with
  | nil => cases hx
  | cons t T ih =>
    obtain ⟨h0, ht⟩ := List.pairwise_cons.1 h
    rcases List.mem_cons.1 hx with h1 | h1 <;> rcases List.mem_cons.1 hy with h2 | h2
    · rw [h1, h2]
    · have := h0 y h2; subst h1; omega
    · have := h0 x h1; subst h2; omega
    · exact ih ht h1 h2
theorem flu_snoc (S : List Value) (L : List Ent) (e : Ent) (h : ∀ x ∈ L, x.k ≠ e.k) : flu S (L ++ [e]) = (flu S L).set e.k e.v := by
  refine List.ext_getElem (by simp [flu]) fun i h1 h2 => ?_
  rw [List.getElem_set]
  unfold flu
  simp only [List.getElem_mapIdx, List.find?_append]
  by_cases hi : e.k = i
  · subst hi
    have hn : L.find? (fun x => x.k == e.k) = none := by
      rw [List.find?_eq_none]
      intro x hx
      have := h x hx
      simpa using this
    simp [hn]
  · cases L.find? (fun x => x.k == i) with
    | some x => simp [hi]
    | none => simp [hi]
theorem flu_all (S : List Value) (L T : List Ent) (h1 : ∀ e ∈ L, e ∈ T) (h2 : ∀ e ∈ T, e ∈ L) (hp : T.Pairwise (fun a b => a.k < b.k)) : flu S L = flu S T := by
  refine List.ext_getElem (by simp [flu]) fun i q1 q2 => ?_
  rw [flu_get _ _ _ q1 (by rw [← flu_length S L]; exact q1), flu_get _ _ _ q2 (by rw [← flu_length S L]; exact q1)]
  unfold pick
  have : L.find? (fun e => e.k == i) = T.find? (fun e => e.k == i) := by
    cases hL : L.find? (fun e => e.k == i) with
    | none =>
      symm
      rw [List.find?_eq_none] at hL ⊢
      exact fun x hx => hL x (h2 x hx)
    | some x =>
      have hx := List.mem_of_find?_eq_some hL
      have hxk : x.k = i := by simpa using List.find?_some hL
      cases hT : T.find? (fun e => e.k == i) with
      | none =>
        rw [List.find?_eq_none] at hT
        have := hT x (h1 x hx)
        simp [hxk] at this
      | some y =>
        have hy := List.mem_of_find?_eq_some hT
        have hyk : y.k = i := by simpa using List.find?_some hT
        rw [key_inj hp (h1 x hx) hy (by omega)]
  rw [this]
theorem flu_mem {S : List Value} {L : List Ent} {v : Value} (h : v ∈ flu S L) : v ∈ S ∨ ∃ e ∈ L, v = e.v := by
  obtain ⟨i, hi, rfl⟩ := List.mem_iff_getElem.1 h
  rw [flu_get _ _ _ hi (by rw [← flu_length S L]; exact hi)]
  unfold pick
  cases hL : L.find? (fun e => e.k == i) with
  | none => exact .inl (List.getElem_mem _)
  | some x => exact .inr ⟨x, List.mem_of_find?_eq_some hL, rfl⟩
/-- The sector at a number, behind a flush. -/
theorem flu_at {S : List Value} {L : List Ent} (hp : L.Pairwise (fun a b => a.k < b.k)) (e : Ent) (he : e ∈ L) (hk : e.k < S.length) : (flu S L)[e.k]? = some e.v := by
  have hl : e.k < (flu S L).length := by rw [flu_length]; exact hk
  rw [List.getElem?_eq_getElem hl, flu_get _ _ _ hl hk]
  unfold pick
  cases hL : L.find? (fun x => x.k == e.k) with
  | none =>
    rw [List.find?_eq_none] at hL
    have := hL e he
    simp at this
  | some x =>
    have hxk : x.k = e.k := by simpa using List.find?_some hL
    rw [key_inj hp (List.mem_of_find?_eq_some hL) he hxk]
theorem flu_off {S : List Value} {L : List Ent} (i : Nat) (h : ∀ e ∈ L, e.k ≠ i) : (flu S L)[i]? = S[i]? := by
  unfold flu
  rw [List.getElem?_mapIdx]
  have hL : L.find? (fun x => x.k == i) = none := by
    rw [List.find?_eq_none]
    intro x hx
    have := h x hx
    simpa using this
  rw [hL]
  cases S[i]? <;> rfl
end Go.Proofs.Ytlkieepfjhiflaa
