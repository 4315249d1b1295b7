/- What ops do with sectors, in plain lists. No condition. -/
import Derived.Test.YtlkieepfjhiflaaWf
namespace Go.Proofs.Ytlkieepfjhiflaa
open Go.RowKit Go.ChangeMaps

/-- An op: a flush, or a write. -/
def opV : Option (Nat × Value) → Value
  | none => fOp
  | some (n, v) => wOp n v
def kvs (T : List Ent) : List (Nat × Value) := T.map fun e => (e.k, e.v)
def fluP (S : List Value) (m : List (Nat × Value)) : List Value := S.mapIdx fun i x => match m.find? (fun p => p.1 == i) with | some p => p.2 | none => x
theorem fluP_length (S : List Value) (m : List (Nat × Value)) : (fluP S m).length = S.length := by simp [fluP]
theorem fluP_get (S : List Value) (m : List (Nat × Value)) (i : Nat) (h : i < (fluP S m).length) (h' : i < S.length) : (fluP S m)[i] = (match m.find? (fun p => p.1 == i) with | some p => p.2 | none => S[i]) := by
  simp only [fluP, List.getElem_mapIdx]
theorem flu_kvs (S : List Value) (T : List Ent) : flu S T = fluP S (kvs T) := by
  refine List.ext_getElem (by rw [flu_length, fluP_length]) fun i h1 h2 => ?_
  rw [flu_get S T i h1 (by rw [← flu_length S T]; exact h1), fluP_get S _ i h2 (by rw [← fluP_length S (kvs T)]; exact h2)]
  unfold pick kvs
  rw [List.find?_map]
  cases h : T.find? ((fun p => p.1 == i) ∘ fun e : Ent => (e.k, e.v)) with
  | none =>
    have : T.find? (fun e => e.k == i) = none := h
    rw [this]; rfl
  | some e =>
    have : T.find? (fun e => e.k == i) = some e := h
    rw [this]; rfl
def stepP (st : List Value × List (Nat × Value)) : Option (Nat × Value) → List Value × List (Nat × Value)
  | none => (fluP st.1 st.2, [])
  | some p => (st.1, st.2 ++ [p])
/-- Ops done, one behind the other. -/
def play (F : List Value) (ops : List (Option (Nat × Value))) : List Value × List (Nat × Value) := ops.foldl stepP (F, [])
theorem play_nil (F : List Value) : play F [] = (F, []) := rfl
theorem play_snoc (F : List Value) (ops : List (Option (Nat × Value))) (o : Option (Nat × Value)) : play F (ops ++ [o]) = stepP (play F ops) o := by
  unfold play; rw [List.foldl_append]; rfl
theorem play_take (F : List Value) (ops : List (Option (Nat × Value))) (j : Nat) (o : Option (Nat × Value)) (h : ops[j]? = some o) : play F (ops.take (j + 1)) = stepP (play F (ops.take j)) o := by
  have hj := (List.getElem?_eq_some_iff.1 h).1
  rw [List.take_succ_eq_append_getElem hj, play_snoc]
  rw [List.getElem?_eq_getElem hj] at h
  simp only [Option.some.injEq] at h
  rw [h]
theorem play_length (F : List Value) (ops : List (Option (Nat × Value))) : (play F ops).1.length = F.length := by
  suffices h : ∀ (st : List Value × List (Nat × Value)), (ops.foldl stepP st).1.length = st.1.length from h (F, [])
  induction ops with
  | nil => intro st; rfl
  | cons o ops ih =>
    intro st
    rw [List.foldl_cons, ih]
    cases o with
    | none => exact fluP_length _ _
    | some p => rfl
/-- Ops that a disk of such sectors can be played: each write's number is one of its sectors', and greater than those that wait. -/
def Playable (F : List Value) (ops : List (Option (Nat × Value))) : Prop :=
  ∀ (j n : Nat) (v : Value), ops[j]? = some (some (n, v)) → n < F.length ∧ (∀ p ∈ (play F (ops.take j)).2, p.1 < n) ∧ ∃ a l c, v = .slice a l c
theorem Playable.nil (F : List Value) : Playable F [] := fun j n v h => by simp at h
theorem Playable.snoc_f {F : List Value} {ops : List (Option (Nat × Value))} (h : Playable F ops) : Playable F (ops ++ [none]) := fun j n v hj => by
  rw [List.getElem?_append] at hj
  split at hj
  · rename_i hlt
    rw [List.take_append_of_le_length (by omega)]
    exact h j n v hj
  · rename_i hge
    rw [List.getElem?_singleton] at hj
    split at hj <;> simp at hj
theorem Playable.snoc_w {F : List Value} {ops : List (Option (Nat × Value))} (h : Playable F ops) {n : Nat} {v : Value} (hn : n < F.length) (hk : ∀ p ∈ (play F ops).2, p.1 < n) (hv : ∃ a l c, v = .slice a l c) : Playable F (ops ++ [some (n, v)]) := fun j n' v' hj => by
  rw [List.getElem?_append] at hj
  split at hj
  · rename_i hlt
    rw [List.take_append_of_le_length (by omega)]
    exact h j n' v' hj
  · rename_i hge
    rw [List.getElem?_singleton] at hj
    split at hj
    · simp only [Option.some.injEq, Prod.mk.injEq] at hj
      obtain ⟨rfl, rfl⟩ := hj
      have : j = ops.length := by omega
      subst this
      rw [List.take_left]
      exact ⟨hn, hk, hv⟩
    · cases hj
end Go.Proofs.Ytlkieepfjhiflaa
